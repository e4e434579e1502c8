/- Drop: what memory keeps; the plain functions. -/
import Derived.Test.YtnajopkaepjncaaM4
/- Drop: what memory keeps; the plain functions. -/
namespace Go.Proofs.Ytnajopkaepjncaa
open Am
set_option linter.unusedVariables false

/-! ### what memory keeps -/
def Pf (H0 H : Hp) : Prop := ∀ (i : Nat) (b : Option Blk), H0[i]? = some b → H[i]? = some b
theorem Pf.refl (H : Hp) : Pf H H := fun _ _ h => h
theorem Pf.app {H0 H : Hp} (h : Pf H0 H) (E : Hp) : Pf H0 (H ++ E) := fun i b hb => get_app (h i b hb) E
theorem Pf.set {H0 H : Hp} (h : Pf H0 H) {id : Nat} (hid : H0.length ≤ id) (x : Option Blk) : Pf H0 (H.set id x) := fun i b hb => by
  have : i < H0.length := (List.getElem?_eq_some_iff.1 hb).1
  rw [List.getElem?_set_ne (by omega)]
  exact h i b hb
theorem Pf.len {H0 H : Hp} (h : Pf H0 H) : H0.length ≤ H.length := by
  rcases Nat.lt_or_ge H.length H0.length with hlt | hge
  · exfalso
    have hb := List.getElem?_eq_getElem (l := H0) (i := H.length) hlt
    have := h _ _ hb
    rw [List.getElem?_eq_none (Nat.le_refl _)] at this
    cases this
  · exact hge
theorem Pf.more {H0 H : Hp} (h : Pf H0 H) : More H0 H := by
  refine ⟨H.drop H0.length, ?_⟩
  apply List.ext_getElem?
  intro i
  by_cases hi : i < H0.length
  · rw [List.getElem?_append_left hi, List.getElem?_eq_getElem hi]
    exact h i _ (List.getElem?_eq_getElem hi)
  · rw [List.getElem?_append_right (by omega), List.getElem?_drop]
    congr 1; omega
theorem Pf.trans {A B C : Hp} (h : Pf A B) (k : Pf B C) : Pf A C := fun i b hb => k i b (h i b hb)
/-- All but one block. -/
def Kp (id : Nat) (H H' : Hp) : Prop := ∀ (i : Nat) (b : Option Blk), i ≠ id → H[i]? = some b → H'[i]? = some b
theorem Kp.refl (id : Nat) (H : Hp) : Kp id H H := fun _ _ _ h => h
theorem Kp.app {id : Nat} {H H' : Hp} (h : Kp id H H') (E : Hp) : Kp id H (H' ++ E) := fun i b hi hb => get_app (h i b hi hb) E
theorem Kp.set {id : Nat} {H H' : Hp} (h : Kp id H H') (x : Option Blk) : Kp id H (H'.set id x) := fun i b hi hb => by
  rw [List.getElem?_set_ne (fun e => hi e.symm)]; exact h i b hi hb
theorem Kp.trans {id : Nat} {A B C : Hp} (h : Kp id A B) (k : Kp id B C) : Kp id A C := fun i b hi hb => k i b hi (h i b hi hb)
theorem get_set_same {H : Hp} {id : Nat} {b : Option Blk} (h : H[id]? = some b) (x : Option Blk) : (H.set id x)[id]? = some x := by
  rw [List.getElem?_set_self (List.getElem?_eq_some_iff.1 h).1]
theorem set_last (H : Hp) (a b : Option Blk) : (H ++ [a]).set H.length b = H ++ [b] := by
  rw [List.set_append_right _ _ (Nat.le_refl _), Nat.sub_self]; rfl
theorem nil_cells (Q : Nat × Nat → Prop) : ∀ p : Nat × Nat, p ∈ ([] : Cl) ↔ (p ∈ ([] : Cl) ∧ Q p) := fun p => ⟨fun h => (by cases h), fun h => h.1⟩

/-! ### flags -/
theorem splice_bool (fl : List Bool) (k : Nat) (h : k < fl.length) (b : Bool) : splice (fl.map AV.bool) k [AV.bool b] = (fl.set k b).map AV.bool := by
  apply List.ext_getElem?
  intro i
  have hl : k + [AV.bool b].length ≤ (fl.map AV.bool).length := by rw [List.length_map]; simp; omega
  have h1 := length_splice (fl.map AV.bool) [AV.bool b] k hl
  by_cases hi : i < fl.length
  · have h2 := getD_splice (fl.map AV.bool) [AV.bool b] k i hl
    rw [List.getD_eq_getElem?_getD, List.getElem?_eq_getElem (by rw [h1, List.length_map]; exact hi)] at h2
    rw [List.getElem?_eq_getElem (by rw [h1, List.length_map]; exact hi)]
    simp only [Option.getD_some] at h2
    rw [h2, List.getElem?_map, List.getElem?_set]
    by_cases hk : k = i
    · subst hk
      rw [if_pos (by simp), if_pos rfl, if_pos h]
      simp
    · rw [if_neg (by simp only [List.length_cons, List.length_nil]; omega), if_neg hk]
      rw [List.getD_eq_getElem?_getD, List.getElem?_map, List.getElem?_eq_getElem hi]
      rfl
  · rw [List.getElem?_eq_none (by rw [h1, List.length_map]; omega), List.getElem?_eq_none (by simp; omega)]
theorem idx_need {id n i : Nat} (h : i < n) : indexAddrA Try.prog 55 (.sl 4 id 0 n) (.int .i64 (i : Int)) = some (.ptr id i) := by
  have hu : Try.prog.underlying 55 = some (.slice 4) := Try.underlying55
  have hs : sizeT Try.prog 4 = some 1 := rfl
  unfold indexAddrA
  rw [hu]
  simp only [hs]
  have : inRange (i : Int) n = true := by unfold inRange; simp [h]
  rw [this]
  simp
theorem wRd_bool {fl : List Bool} {i : Nat} {b : Bool} {k : AV → Prop} (h : fl[i]? = some b) (hk : k (.bool b)) : wRd Try.prog 4 i (fl.map AV.bool) k := by
  have hs : sizeT Try.prog 4 = some 1 := rfl
  have hlt : i < fl.length := (List.getElem?_eq_some_iff.1 h).1
  unfold wRd
  rw [hs]
  have e1 : Nat.ble (i + 1) (fl.map AV.bool).length = true := by rw [List.length_map]; exact Nat.ble_eq_true_of_le hlt
  simp only [e1]
  have e2 : ((fl.map AV.bool).drop i).take 1 = [AV.bool b] := by
    rw [List.drop_eq_getElem_cons (by rw [List.length_map]; exact hlt)]
    simp only [List.take_succ_cons, List.take_zero]
    rw [List.getElem_map]
    rw [List.getElem?_eq_getElem hlt] at h
    injection h with h
    rw [h]
  rw [e2]
  exact hk
theorem rep_bool (n : Nat) : rep n [AV.bool false] = (List.replicate n false).map AV.bool := by
  induction n with
  | zero => rfl
  | succ n ih =>
    unfold rep at ih ⊢
    rw [List.replicate_succ, List.flatten_cons, ih, List.replicate_succ]
    rfl
theorem natA_len (n : Nat) : natA (.int .i64 (n : Int)) = some n := by
  unfold natA
  simp only
  rw [if_pos (Int.natCast_nonneg n)]
  simp

/-! ### the plain functions -/
def markFrom (run : List Row) (ms : List Int) : Nat → Nat → List Bool → List Bool
  | 0, _, fl => fl
  | m + 1, j, fl => match ms[j]? with
    | some x => match decide (seenP run x ≥ 0) with
      | true => markFrom run ms m (j + 1) (fl.set (seenP run x).toNat true)
      | false => markFrom run ms m (j + 1) fl
    | none => fl
def copyFrom (run : List Row) (fl : List Bool) : Nat → Nat → List Row → List Row
  | 0, _, out => out
  | m + 1, i, out => match run[i]?, fl[i]? with
    | some r, some true => copyFrom run fl m (i + 1) (out ++ [r])
    | some r, some false => copyFrom run fl m (i + 1) out
    | _, _ => out
def popFrom (bot : Bool) (fr : Nat) : Nat → List Row → List Row
  | 0, xs => xs
  | m + 1, xs => match bot && decide (xs.length > fr), xs[xs.length - 1]? with
    | true, some r => match r.kind != 1 with
      | true => popFrom bot fr m (xs.take (xs.length - 1))
      | false => xs
    | _, _ => xs
def flags0 (run : List Row) : List Bool := (List.replicate run.length false).set 0 true
def flagsOf (run : List Row) (ms : List Int) : List Bool := markFrom run ms ms.length 0 (flags0 run)
def addRun (ms : List Int) (bot : Bool) (out run : List Row) : List Row :=
  popFrom bot out.length (copyFrom run (flagsOf run ms) run.length 0 out).length (copyFrom run (flagsOf run ms) run.length 0 out)
def dropFrom (rs : List (List Row)) (ms : List Int) (bot : Bool) : Nat → Nat → List Row → List Row
  | 0, _, out => out
  | m + 1, k, out => match rs[k]? with
    | some run => dropFrom rs ms bot m (k + 1) (addRun ms bot out run)
    | none => out
def dropP (l : List Row) (ms : List Int) (bot : Bool) : List Row := dropFrom (runsP l) ms bot (runsP l).length 0 []
theorem mark_len (run : List Row) (ms : List Int) : ∀ (m j : Nat) (fl : List Bool), (markFrom run ms m j fl).length = fl.length := by
  intro m
  induction m with
  | zero => intro j fl; rfl
  | succ m ih =>
    intro j fl
    simp only [markFrom]
    split
    · split
      · rw [ih, List.length_set]
      · exact ih _ _
    · rfl
theorem copy_len (run : List Row) (fl : List Bool) : ∀ (m i : Nat) (out : List Row), (copyFrom run fl m i out).length ≤ out.length + m := by
  intro m
  induction m with
  | zero => intro i out; exact Nat.le_refl _
  | succ m ih =>
    intro i out
    simp only [copyFrom]
    split
    · have := ih (i + 1) (out ++ [by assumption])
      refine Nat.le_trans (ih _ _) ?_
      simp only [List.length_append, List.length_cons, List.length_nil]; omega
    · have := ih (i + 1) out; omega
    · omega
theorem pop_len (bot : Bool) (fr : Nat) : ∀ (m : Nat) (xs : List Row), (popFrom bot fr m xs).length ≤ xs.length := by
  intro m
  induction m with
  | zero => intro xs; exact Nat.le_refl _
  | succ m ih =>
    intro xs
    simp only [popFrom]
    split
    · split
      · refine Nat.le_trans (ih _) ?_
        rw [List.length_take]; omega
      · exact Nat.le_refl _
    · exact Nat.le_refl _
end Go.Proofs.Ytnajopkaepjncaa

/- Drop's inner loops. -/
namespace Go.Proofs.Ytnajopkaepjncaa
open Am
set_option linter.unusedVariables false
set_option maxRecDepth 8000

/-- The rows that were put out, as they lie in memory: perhaps with others behind them that were taken back. -/
def OutAt (n0 : Nat) (H : Hp) (o : AV) (xs : List Row) : Prop :=
  (o = .nils ∧ xs = []) ∨ ∃ id rest, n0 ≤ id ∧ o = .sl 39 id 0 xs.length ∧ H[id]? = some (some ⟨39, flat (xs.map Row.enc) ++ rest⟩) ∧ 0 < (flat (xs.map Row.enc) ++ rest).length
theorem OutAt.kept {n0 id : Nat} {H H' : Hp} {o : AV} {xs : List Row} {fl : List Bool} (h : OutAt n0 H o xs) (hn : H[id]? = some (some ⟨4, fl.map AV.bool⟩)) (hk : Kp id H H') : OutAt n0 H' o xs := by
  rcases h with h | ⟨i, rest, h1, h2, h3, h4⟩
  · exact .inl h
  · have hne : i ≠ id := by
      rintro rfl
      rw [hn] at h3
      injection h3 with h3; injection h3 with h3; injection h3 with h3 _
      cases h3
    exact .inr ⟨i, rest, h1, h2, hk i _ hne h3, h4⟩
theorem OutAt.app {n0 : Nat} {H : Hp} {o : AV} {xs : List Row} (h : OutAt n0 H o xs) (E : Hp) : OutAt n0 (H ++ E) o xs := by
  rcases h with h | ⟨i, rest, h1, h2, h3, h4⟩
  · exact .inl h
  · exact .inr ⟨i, rest, h1, h2, get_app h3 E, h4⟩
theorem flat_rows (xs : List Row) : (flat (xs.map Row.enc)).length = xs.length * 4 := by
  have := flat_len (sz := 4) (xs.map Row.enc) (by
    intro x hx
    obtain ⟨r, _, rfl⟩ := List.mem_map.1 hx
    rfl)
  rw [List.length_map] at this
  exact this
theorem flat_take (xs : List Row) (rest : List AV) : (flat (xs.map Row.enc) ++ rest).take (xs.length * 4) = flat (xs.map Row.enc) := by
  rw [List.take_append_of_le_length (by rw [flat_rows]; exact Nat.le_refl _), List.take_of_length_le (by rw [flat_rows]; exact Nat.le_refl _)]
theorem flat_snoc (xs : List Row) (r : Row) : flat ((xs ++ [r]).map Row.enc) = flat (xs.map Row.enc) ++ r.enc.cells := by
  rw [List.map_append, flat_append]; rfl
theorem get_mark {ms : List Int} {k : Nat} {m : Int} (h : ms[k]? = some m) : (ms.map (AV.int .u64))[k]? = some (.int .u64 m) := by rw [List.getElem?_map, h]; rfl
/-- A kind, read out of the rows that were put out. -/
theorem idx_row {id n i : Nat} (h : i < n) : indexAddrA Try.prog 22 (.sl 39 id 0 n) (.int .i64 (i : Int)) = some (.ptr id (i * 4)) := by
  have hu : Try.prog.underlying 22 = some (.slice 39) := Try.underlying22
  have hs : sizeT Try.prog 39 = some 4 := rfl
  unfold indexAddrA
  rw [hu]
  simp only [hs]
  have : inRange (i : Int) n = true := by unfold inRange; simp [h]
  rw [this]
  simp
theorem kind_at (xs : List Row) (rest : List AV) {i : Nat} {r : Row} (h : xs[i]? = some r) : (flat (xs.map Row.enc) ++ rest)[i * 4 + 2]? = some (.int .i64 r.kind) := by
  have hlt : i < xs.length := (List.getElem?_eq_some_iff.1 h).1
  have hc : ∀ x ∈ xs.map Row.enc, x.cells.length = 4 := by
    intro x hx
    obtain ⟨r, _, rfl⟩ := List.mem_map.1 hx
    rfl
  have hf := flat_at (sz := 4) (xs.map Row.enc) hc i 2 r.enc (get_row h) (by omega)
  have hlen : i * 4 + 2 < (flat (xs.map Row.enc)).length := by rw [flat_rows]; omega
  rw [List.getElem?_append_left hlen]
  rw [List.getD_eq_getElem?_getD, List.getElem?_eq_getElem hlen] at hf
  rw [List.getElem?_eq_getElem hlen]
  exact congrArg some hf
theorem wRd_int {cs : List AV} {i : Nat} {n : Int} {k : AV → Prop} (h : cs[i]? = some (.int .i64 n)) (hk : k (.int .i64 n)) : wRd Try.prog 3 i cs k := by
  have hs : sizeT Try.prog 3 = some 1 := rfl
  have hlt : i < cs.length := (List.getElem?_eq_some_iff.1 h).1
  unfold wRd
  rw [hs]
  have e1 : Nat.ble (i + 1) cs.length = true := Nat.ble_eq_true_of_le hlt
  simp only [e1]
  have e2 : (cs.drop i).take 1 = [AV.int .i64 n] := by
    rw [List.drop_eq_getElem_cons hlt]
    simp only [List.take_succ_cons, List.take_zero]
    rw [List.getElem?_eq_getElem hlt] at h
    injection h with h
    rw [h]
  rw [e2]
  exact hk
theorem cut_sl {id n m : Nat} (h : m ≤ n) : sliceA Try.prog 22 (.sl 39 id 0 n) none (some (.int .i64 (m : Int))) none = some (.sl 39 id 0 m) := by
  have hu : Try.prog.underlying 22 = some (.slice 39) := Try.underlying22
  have hs : sizeT Try.prog 39 = some 4 := rfl
  unfold sliceA
  rw [hu]
  have b2 : boundA (some (.int .i64 (m : Int))) n n = some m := by
    unfold boundA
    simp only
    rw [if_pos (by omega)]; simp
  simp only [boundA, Option.isSome_none, Bool.false_and, Bool.false_eq_true, if_false]
  simp only [boundA] at b2
  rw [b2]
  simp [hs]

noncomputable abbrev c17m : Code := at_ Try.f17 [true, true, true, false, true, false, false, true, true, false, false, true, true, true, false, true, false, false]

theorem marks_nil (run : List Row) (hrun : run.length < 1048576) (rs : List (List Row)) (ms : List Int) (sm : List AV) (hms : ms.length < 1048576) (bot : Bool) (c23 c24 : Int) (idn : Nat) : ∀ (m j : Nat) (fl : List Bool) (H : Hp), ms.length - j = m → fl.length = run.length → H[idn]? = some (some ⟨4, fl.map AV.bool⟩) →
    L Try.prog K0 (K0.vars 17) 90 c17m [(1, AV.lst 23 (ms.map (AV.int .u64)) sm), (2, .bool bot), (8, .nils), (10, encRun run), (11, .sl 4 idn 0 run.length), (22, .lst 22 (rs.map encRun) []), (23, .int .i64 c23), (24, .int .i64 c24), (33, .lst 23 (ms.map (AV.int .u64)) sm), (34, .int .i64 ((ms.map (AV.int .u64)).length : Nat)), (35, .int .i64 (j : Int))] H [] []
      fun e env H' sl cl => cl = [] ∧ sl = [] ∧ e = .exit 2 ∧ Kp idn H H' ∧ H'[idn]? = some (some ⟨4, (markFrom run ms m j fl).map AV.bool⟩) ∧ ∃ v33 v34 v35 v36, env = [(1, AV.lst 23 (ms.map (AV.int .u64)) sm), (2, .bool bot), (8, .nils), (10, encRun run), (11, .sl 4 idn 0 run.length), (22, .lst 22 (rs.map encRun) []), (23, .int .i64 c23), (24, .int .i64 c24), (33, v33), (34, v34), (35, v35), (36, v36)] := by
  intro m
  induction m with
  | zero =>
    intro j fl H hn hfl hb
    refine L_round ?_
    refine And.intro (fun h => ?_) (fun h => ?_)
    · exfalso
      have h := dec_true (p := (j : Int) < ((ms.map (AV.int .u64)).length : Nat)) h
      rw [List.length_map] at h
      omega
    · exact And.intro rfl (And.intro rfl (And.intro rfl (And.intro (Kp.refl _ _) (And.intro hb ⟨_, _, _, _, rfl⟩))))
  | succ m ih =>
    intro j fl H hn hfl hb
    obtain ⟨x, hx⟩ : ∃ x, ms[j]? = some x := ⟨ms[j], List.getElem?_eq_getElem (by omega)⟩
    obtain ⟨E, hE⟩ := seen_spec (x := encRun run) (l := run) (.inr ⟨[], rfl⟩) (by omega) x H []
    refine L_round ?_
    refine And.intro (fun h => ?_) (fun h => ?_)
    · clear h
      refine And.intro (Int.natCast_nonneg _) (Exists.intro _ (And.intro (get_mark hx) ?_))
      rcases find_cases (fun r => decide (r.seq ≤ x)) run run.length 0 with hs | ⟨k, r, hs, hr⟩
      · have hs : seenP run x = -1 := hs
        have hstep : markFrom run ms (m + 1) j fl = markFrom run ms m (j + 1) fl := by simp only [markFrom, hx, hs]; rfl
        rw [hs] at hE
        rw [hstep]
        refine And.intro rfl (Exists.intro _ (Exists.intro _ (Exists.intro _ (And.intro hE ?_))))
        refine And.intro (fun h => by cases h) (fun h => ?_)
        refine Exists.intro (.int .i64 ((j + 1 : Nat) : Int)) (And.intro (i64_eq (by omega) (by omega) (by omega)) ?_)
        refine L_mono (ih (j + 1) fl (H ++ E) (by omega) hfl (get_app hb E)) ?_
        rintro e env H' sl cl ⟨h1, h2, h3, h4, h5⟩
        exact ⟨h1, h2, h3, ((Kp.refl idn H).app E).trans h4, h5⟩
      · have hs : seenP run x = (k : Int) := hs
        have hk : k < run.length := (List.getElem?_eq_some_iff.1 hr).1
        have hstep : markFrom run ms (m + 1) j fl = markFrom run ms m (j + 1) (fl.set k true) := by
          simp only [markFrom, hx, hs]
          have : decide ((k : Int) ≥ 0) = true := by simp
          rw [this]
          simp only [Int.toNat_natCast]
        rw [hs] at hE
        rw [hstep]
        refine And.intro rfl (Exists.intro _ (Exists.intro _ (Exists.intro _ (And.intro hE ?_))))
        refine And.intro (fun _ => ?_) (fun h => ?_)
        · refine Exists.intro _ (And.intro (idx_need hk) ?_)
          refine Exists.intro _ (And.intro (get_app hb E) ?_)
          refine And.intro rfl (And.intro (Nat.succ_pos _) (And.intro (?_ : k + 1 ≤ (fl.map AV.bool).length) (Exists.intro ((H ++ E).set idn (some ⟨4, (fl.set k true).map AV.bool⟩)) (And.intro (?_ : (H ++ E).set idn (some ⟨4, splice (fl.map AV.bool) k [AV.bool true]⟩) = _) (Exists.intro [] (And.intro (nil_cells _) ?_))))))
          · rw [List.length_map]; omega
          · rw [splice_bool fl k (by omega)]
          refine Exists.intro (.int .i64 ((j + 1 : Nat) : Int)) (And.intro (i64_eq (by omega) (by omega) (by omega)) ?_)
          refine L_mono (ih (j + 1) (fl.set k true) _ (by omega) (by rw [List.length_set]; exact hfl) (get_set_same (get_app hb E) _)) ?_
          rintro e env H' sl cl ⟨h1, h2, h3, h4, h5⟩
          exact ⟨h1, h2, h3, (((Kp.refl idn H).app E).set _).trans h4, h5⟩
        · exfalso
          have h := dec_false (p := (k : Int) ≥ 0) h
          omega
    · exfalso
      have h := dec_false (p := (j : Int) < ((ms.map (AV.int .u64)).length : Nat)) h
      rw [List.length_map] at h
      omega

theorem marks_sl (run : List Row) (hrun : run.length < 1048576) (rs : List (List Row)) (ms : List Int) (sm : List AV) (hms : ms.length < 1048576) (bot : Bool) (c23 c24 : Int) (idn : Nat) (ido no : Nat) : ∀ (m j : Nat) (fl : List Bool) (H : Hp), ms.length - j = m → fl.length = run.length → H[idn]? = some (some ⟨4, fl.map AV.bool⟩) →
    L Try.prog K0 (K0.vars 17) 90 c17m [(1, AV.lst 23 (ms.map (AV.int .u64)) sm), (2, .bool bot), (8, .sl 39 ido 0 no), (10, encRun run), (11, .sl 4 idn 0 run.length), (22, .lst 22 (rs.map encRun) []), (23, .int .i64 c23), (24, .int .i64 c24), (33, .lst 23 (ms.map (AV.int .u64)) sm), (34, .int .i64 ((ms.map (AV.int .u64)).length : Nat)), (35, .int .i64 (j : Int))] H [] []
      fun e env H' sl cl => cl = [] ∧ sl = [] ∧ e = .exit 2 ∧ Kp idn H H' ∧ H'[idn]? = some (some ⟨4, (markFrom run ms m j fl).map AV.bool⟩) ∧ ∃ v33 v34 v35 v36, env = [(1, AV.lst 23 (ms.map (AV.int .u64)) sm), (2, .bool bot), (8, .sl 39 ido 0 no), (10, encRun run), (11, .sl 4 idn 0 run.length), (22, .lst 22 (rs.map encRun) []), (23, .int .i64 c23), (24, .int .i64 c24), (33, v33), (34, v34), (35, v35), (36, v36)] := by
  intro m
  induction m with
  | zero =>
    intro j fl H hn hfl hb
    refine L_round ?_
    refine And.intro (fun h => ?_) (fun h => ?_)
    · exfalso
      have h := dec_true (p := (j : Int) < ((ms.map (AV.int .u64)).length : Nat)) h
      rw [List.length_map] at h
      omega
    · exact And.intro rfl (And.intro rfl (And.intro rfl (And.intro (Kp.refl _ _) (And.intro hb ⟨_, _, _, _, rfl⟩))))
  | succ m ih =>
    intro j fl H hn hfl hb
    obtain ⟨x, hx⟩ : ∃ x, ms[j]? = some x := ⟨ms[j], List.getElem?_eq_getElem (by omega)⟩
    obtain ⟨E, hE⟩ := seen_spec (x := encRun run) (l := run) (.inr ⟨[], rfl⟩) (by omega) x H []
    refine L_round ?_
    refine And.intro (fun h => ?_) (fun h => ?_)
    · clear h
      refine And.intro (Int.natCast_nonneg _) (Exists.intro _ (And.intro (get_mark hx) ?_))
      rcases find_cases (fun r => decide (r.seq ≤ x)) run run.length 0 with hs | ⟨k, r, hs, hr⟩
      · have hs : seenP run x = -1 := hs
        have hstep : markFrom run ms (m + 1) j fl = markFrom run ms m (j + 1) fl := by simp only [markFrom, hx, hs]; rfl
        rw [hs] at hE
        rw [hstep]
        refine And.intro rfl (Exists.intro _ (Exists.intro _ (Exists.intro _ (And.intro hE ?_))))
        refine And.intro (fun h => by cases h) (fun h => ?_)
        refine Exists.intro (.int .i64 ((j + 1 : Nat) : Int)) (And.intro (i64_eq (by omega) (by omega) (by omega)) ?_)
        refine L_mono (ih (j + 1) fl (H ++ E) (by omega) hfl (get_app hb E)) ?_
        rintro e env H' sl cl ⟨h1, h2, h3, h4, h5⟩
        exact ⟨h1, h2, h3, ((Kp.refl idn H).app E).trans h4, h5⟩
      · have hs : seenP run x = (k : Int) := hs
        have hk : k < run.length := (List.getElem?_eq_some_iff.1 hr).1
        have hstep : markFrom run ms (m + 1) j fl = markFrom run ms m (j + 1) (fl.set k true) := by
          simp only [markFrom, hx, hs]
          have : decide ((k : Int) ≥ 0) = true := by simp
          rw [this]
          simp only [Int.toNat_natCast]
        rw [hs] at hE
        rw [hstep]
        refine And.intro rfl (Exists.intro _ (Exists.intro _ (Exists.intro _ (And.intro hE ?_))))
        refine And.intro (fun _ => ?_) (fun h => ?_)
        · refine Exists.intro _ (And.intro (idx_need hk) ?_)
          refine Exists.intro _ (And.intro (get_app hb E) ?_)
          refine And.intro rfl (And.intro (Nat.succ_pos _) (And.intro (?_ : k + 1 ≤ (fl.map AV.bool).length) (Exists.intro ((H ++ E).set idn (some ⟨4, (fl.set k true).map AV.bool⟩)) (And.intro (?_ : (H ++ E).set idn (some ⟨4, splice (fl.map AV.bool) k [AV.bool true]⟩) = _) (Exists.intro [] (And.intro (nil_cells _) ?_))))))
          · rw [List.length_map]; omega
          · rw [splice_bool fl k (by omega)]
          refine Exists.intro (.int .i64 ((j + 1 : Nat) : Int)) (And.intro (i64_eq (by omega) (by omega) (by omega)) ?_)
          refine L_mono (ih (j + 1) (fl.set k true) _ (by omega) (by rw [List.length_set]; exact hfl) (get_set_same (get_app hb E) _)) ?_
          rintro e env H' sl cl ⟨h1, h2, h3, h4, h5⟩
          exact ⟨h1, h2, h3, (((Kp.refl idn H).app E).set _).trans h4, h5⟩
        · exfalso
          have h := dec_false (p := (k : Int) ≥ 0) h
          omega
    · exfalso
      have h := dec_false (p := (j : Int) < ((ms.map (AV.int .u64)).length : Nat)) h
      rw [List.length_map] at h
      omega
noncomputable abbrev c17c : Code := at_ Try.f17 [true, true, true, false, true, false, false, true, true, false, false, true, true, true, true, true, false, true, false, false]

theorem copy_nil (H0 : Hp) (run : List Row) (hrun : run.length < 1048576) (rs : List (List Row)) (bot : Bool) (c15 c23 c24 : Int) (idn : Nat) (hidn : H0.length ≤ idn) (fl : List Bool) (hfl : fl.length = run.length) : ∀ (m i : Nat) (o : AV) (xs : List Row) (H : Hp), run.length - i = m → xs.length + m < 2097152 → Pf H0 H → H[idn]? = some (some ⟨4, fl.map AV.bool⟩) → OutAt H0.length H o xs →
    L Try.prog K0 (K0.vars 17) 90 c17c [(1, AV.nils), (2, .bool bot), (8, o), (11, .sl 4 idn 0 run.length), (15, .int .i64 c15), (22, .lst 22 (rs.map encRun) []), (23, .int .i64 c23), (24, .int .i64 c24), (50, encRun run), (51, .int .i64 ((run.map Row.enc).length : Nat)), (52, .int .i64 (i : Int))] H [] []
      fun e env H' sl cl => cl = [] ∧ sl = [] ∧ e = .exit 4 ∧ Pf H0 H' ∧ ∃ o', OutAt H0.length H' o' (copyFrom run fl m i xs) ∧ ∃ v50 v51 v52 v53, env = [(1, AV.nils), (2, .bool bot), (8, o'), (11, .sl 4 idn 0 run.length), (15, .int .i64 c15), (22, .lst 22 (rs.map encRun) []), (23, .int .i64 c23), (24, .int .i64 c24), (50, v50), (51, v51), (52, v52), (53, v53)] := by
  intro m
  induction m with
  | zero =>
    intro i o xs H hn hxs hpf hb ho
    refine L_round ?_
    rcases ho with ⟨rfl, rfl⟩ | ⟨ido, rest, hge, rfl, hout, hpos⟩
    · refine And.intro (fun h => ?_) (fun h => ?_)
      · exfalso
        have h := dec_true (p := (i : Int) < ((run.map Row.enc).length : Nat)) h
        rw [List.length_map] at h
        omega
      · exact And.intro rfl (And.intro rfl (And.intro rfl (And.intro hpf ⟨_, .inl ⟨rfl, rfl⟩, _, _, _, _, rfl⟩)))
    · refine And.intro (fun h => ?_) (fun h => ?_)
      · exfalso
        have h := dec_true (p := (i : Int) < ((run.map Row.enc).length : Nat)) h
        rw [List.length_map] at h
        omega
      · exact And.intro rfl (And.intro rfl (And.intro rfl (And.intro hpf ⟨_, .inr ⟨ido, rest, hge, rfl, hout, hpos⟩, _, _, _, _, rfl⟩)))
  | succ m ih =>
    intro i o xs H hn hxs hpf hb ho
    obtain ⟨r, hr⟩ : ∃ r, run[i]? = some r := ⟨run[i], List.getElem?_eq_getElem (by omega)⟩
    obtain ⟨b, hbi⟩ : ∃ b, fl[i]? = some b := ⟨fl[i], List.getElem?_eq_getElem (by omega)⟩
    have hstep : copyFrom run fl (m + 1) i xs = (match b with | true => copyFrom run fl m (i + 1) (xs ++ [r]) | false => copyFrom run fl m (i + 1) xs) := by
      simp only [copyFrom, hr, hbi]
      cases b <;> rfl
    rw [hstep]
    refine L_round ?_
    rcases ho with ⟨rfl, rfl⟩ | ⟨ido, rest, hge, rfl, hout, hpos⟩
    · refine And.intro (fun h => ?_) (fun h => ?_)
      · clear h
        refine And.intro (Int.natCast_nonneg _) (Exists.intro _ (And.intro (get_row hr) ?_))
        refine Exists.intro _ (And.intro rfl (Exists.intro _ (And.intro rfl ?_)))
        refine Exists.intro _ (And.intro (get_last _ _) ?_)
        refine And.intro rfl (And.intro (Nat.succ_pos _) (And.intro (Nat.le_of_ble_eq_true rfl) (Exists.intro (H ++ [some ⟨39, r.enc.cells⟩]) (And.intro (set_last _ _ _) (Exists.intro [] (And.intro (nil_cells _) ?_))))))
        refine Exists.intro _ (And.intro (idx_need (by omega)) ?_)
        refine Exists.intro _ (And.intro (get_app hb _) (wRd_bool hbi ?_))
        cases b with
        | false =>
          refine And.intro (fun h => by cases h) (fun _ => ?_)
          refine Exists.intro (.int .i64 ((i + 1 : Nat) : Int)) (And.intro (i64_eq (by omega) (by omega) (by omega)) ?_)
          exact ih (i + 1) _ [] _ (by omega) (by omega) (hpf.app _) (get_app hb _) (.inl ⟨rfl, rfl⟩)
        | true =>
          refine And.intro (fun _ => ?_) (fun h => by cases h)
          refine Exists.intro _ (And.intro (get_last _ _) ?_)
          refine Exists.intro _ (And.intro rfl ?_)
          refine And.intro rfl (And.intro (Nat.succ_pos _) (And.intro (Nat.le_of_ble_eq_true rfl) (And.intro (Nat.le_of_ble_eq_true rfl) (And.intro (Nat.le_of_ble_eq_true rfl) (And.intro rfl (Exists.intro _ (And.intro rfl (Exists.intro _ (And.intro rfl ?_)))))))))
          refine Exists.intro (.int .i64 ((i + 1 : Nat) : Int)) (And.intro (i64_eq (by omega) (by omega) (by omega)) ?_)
          exact ih (i + 1) _ ([] ++ [r]) _ (by omega) (by simp only [List.nil_append, List.length_cons, List.length_nil] at hxs ⊢; omega) ((hpf.app _).app _) (get_app (get_app hb _) _) (.inr ⟨_, [], Nat.le_trans hpf.len (by rw [List.length_append]; omega), rfl, get_last _ _, Nat.succ_pos _⟩)
      · exfalso
        have h := dec_false (p := (i : Int) < ((run.map Row.enc).length : Nat)) h
        rw [List.length_map] at h
        omega
    · refine And.intro (fun h => ?_) (fun h => ?_)
      · clear h
        refine And.intro (Int.natCast_nonneg _) (Exists.intro _ (And.intro (get_row hr) ?_))
        refine Exists.intro _ (And.intro rfl (Exists.intro _ (And.intro rfl ?_)))
        refine Exists.intro _ (And.intro (get_last _ _) ?_)
        refine And.intro rfl (And.intro (Nat.succ_pos _) (And.intro (Nat.le_of_ble_eq_true rfl) (Exists.intro (H ++ [some ⟨39, r.enc.cells⟩]) (And.intro (set_last _ _ _) (Exists.intro [] (And.intro (nil_cells _) ?_))))))
        refine Exists.intro _ (And.intro (idx_need (by omega)) ?_)
        refine Exists.intro _ (And.intro (get_app hb _) (wRd_bool hbi ?_))
        cases b with
        | false =>
          refine And.intro (fun h => by cases h) (fun _ => ?_)
          refine Exists.intro (.int .i64 ((i + 1 : Nat) : Int)) (And.intro (i64_eq (by omega) (by omega) (by omega)) ?_)
          exact ih (i + 1) _ xs _ (by omega) (by omega) (hpf.app _) (get_app hb _) (.inr ⟨ido, rest, hge, rfl, get_app hout _, hpos⟩)
        | true =>
          refine And.intro (fun _ => ?_) (fun h => by cases h)
          refine Exists.intro _ (And.intro (get_last _ _) ?_)
          refine Exists.intro _ (And.intro rfl ?_)
          refine Exists.intro _ (And.intro (get_app hout _) (And.intro rfl (And.intro rfl (And.intro rfl (And.intro rfl (And.intro hpos (And.intro (?_ : xs.length * 4 ≤ (flat (xs.map Row.enc) ++ rest).length) (And.intro (?_ : (xs.length + 1) * 48 ≤ 140737488355328) (And.intro (?_ : xs.length + 1 ≤ 140737488355328) (And.intro (Nat.le_of_ble_eq_true rfl) (And.intro rfl (Exists.intro _ (And.intro rfl (Exists.intro ((H ++ [some (Blk.mk 39 r.enc.cells)]).set ido (some (Blk.mk 39 [])) ++ [some (Blk.mk 39 (flat ((xs ++ [r]).map Row.enc) ++ []))]) (And.intro (?_ : ((H ++ [some (Blk.mk 39 r.enc.cells)]).set ido (some (Blk.mk 39 [])) ++ [some (Blk.mk 39 ((flat (xs.map Row.enc) ++ rest).take (xs.length * 4) ++ r.enc.cells))] : Hp) = _) (Exists.intro (xs ++ [r]).length (And.intro (?_ : xs.length + 1 = _) ?_)))))))))))))))))
          · rw [List.length_append, flat_rows]; omega
          · omega
          · omega
          · rw [flat_take, flat_snoc, List.append_nil]
          · rw [List.length_append]; rfl
          refine Exists.intro (.int .i64 ((i + 1 : Nat) : Int)) (And.intro (i64_eq (by omega) (by omega) (by omega)) ?_)
          have hne : ido ≠ idn := by
            rintro rfl
            rw [hb] at hout
            injection hout with hout; injection hout with hout; injection hout with hout _
            cases hout
          have hb2 : (((H ++ [some (Blk.mk 39 r.enc.cells)]).set ido (some (Blk.mk 39 []))) ++ [some (Blk.mk 39 (flat ((xs ++ [r]).map Row.enc) ++ []))])[idn]? = some (some ⟨4, fl.map AV.bool⟩) := by
            refine get_app ?_ _
            rw [List.getElem?_set_ne hne]
            exact get_app hb _
          have hlen2 : (H ++ [some (Blk.mk 39 r.enc.cells)]).length = ((H ++ [some (Blk.mk 39 r.enc.cells)]).set ido (some (Blk.mk 39 []))).length := by rw [List.length_set]
          refine ih (i + 1) _ (xs ++ [r]) _ (by omega) (by rw [List.length_append, List.length_singleton]; omega) (((hpf.app _).set hge _).app _) hb2 (.inr ⟨_, [], Nat.le_trans hpf.len (by rw [List.length_append]; omega), rfl, ?_, ?_⟩)
          · rw [hlen2]; exact get_last _ _
          · rw [List.append_nil, flat_rows, List.length_append]; simp
      · exfalso
        have h := dec_false (p := (i : Int) < ((run.map Row.enc).length : Nat)) h
        rw [List.length_map] at h
        omega

theorem copy_lst (H0 : Hp) (run : List Row) (hrun : run.length < 1048576) (rs : List (List Row)) (mx sm : List AV) (bot : Bool) (c15 c23 c24 : Int) (idn : Nat) (hidn : H0.length ≤ idn) (fl : List Bool) (hfl : fl.length = run.length) : ∀ (m i : Nat) (o : AV) (xs : List Row) (H : Hp), run.length - i = m → xs.length + m < 2097152 → Pf H0 H → H[idn]? = some (some ⟨4, fl.map AV.bool⟩) → OutAt H0.length H o xs →
    L Try.prog K0 (K0.vars 17) 90 c17c [(1, AV.lst 23 mx sm), (2, .bool bot), (8, o), (11, .sl 4 idn 0 run.length), (15, .int .i64 c15), (22, .lst 22 (rs.map encRun) []), (23, .int .i64 c23), (24, .int .i64 c24), (50, encRun run), (51, .int .i64 ((run.map Row.enc).length : Nat)), (52, .int .i64 (i : Int))] H [] []
      fun e env H' sl cl => cl = [] ∧ sl = [] ∧ e = .exit 4 ∧ Pf H0 H' ∧ ∃ o', OutAt H0.length H' o' (copyFrom run fl m i xs) ∧ ∃ v50 v51 v52 v53, env = [(1, AV.lst 23 mx sm), (2, .bool bot), (8, o'), (11, .sl 4 idn 0 run.length), (15, .int .i64 c15), (22, .lst 22 (rs.map encRun) []), (23, .int .i64 c23), (24, .int .i64 c24), (50, v50), (51, v51), (52, v52), (53, v53)] := by
  intro m
  induction m with
  | zero =>
    intro i o xs H hn hxs hpf hb ho
    refine L_round ?_
    rcases ho with ⟨rfl, rfl⟩ | ⟨ido, rest, hge, rfl, hout, hpos⟩
    · refine And.intro (fun h => ?_) (fun h => ?_)
      · exfalso
        have h := dec_true (p := (i : Int) < ((run.map Row.enc).length : Nat)) h
        rw [List.length_map] at h
        omega
      · exact And.intro rfl (And.intro rfl (And.intro rfl (And.intro hpf ⟨_, .inl ⟨rfl, rfl⟩, _, _, _, _, rfl⟩)))
    · refine And.intro (fun h => ?_) (fun h => ?_)
      · exfalso
        have h := dec_true (p := (i : Int) < ((run.map Row.enc).length : Nat)) h
        rw [List.length_map] at h
        omega
      · exact And.intro rfl (And.intro rfl (And.intro rfl (And.intro hpf ⟨_, .inr ⟨ido, rest, hge, rfl, hout, hpos⟩, _, _, _, _, rfl⟩)))
  | succ m ih =>
    intro i o xs H hn hxs hpf hb ho
    obtain ⟨r, hr⟩ : ∃ r, run[i]? = some r := ⟨run[i], List.getElem?_eq_getElem (by omega)⟩
    obtain ⟨b, hbi⟩ : ∃ b, fl[i]? = some b := ⟨fl[i], List.getElem?_eq_getElem (by omega)⟩
    have hstep : copyFrom run fl (m + 1) i xs = (match b with | true => copyFrom run fl m (i + 1) (xs ++ [r]) | false => copyFrom run fl m (i + 1) xs) := by
      simp only [copyFrom, hr, hbi]
      cases b <;> rfl
    rw [hstep]
    refine L_round ?_
    rcases ho with ⟨rfl, rfl⟩ | ⟨ido, rest, hge, rfl, hout, hpos⟩
    · refine And.intro (fun h => ?_) (fun h => ?_)
      · clear h
        refine And.intro (Int.natCast_nonneg _) (Exists.intro _ (And.intro (get_row hr) ?_))
        refine Exists.intro _ (And.intro rfl (Exists.intro _ (And.intro rfl ?_)))
        refine Exists.intro _ (And.intro (get_last _ _) ?_)
        refine And.intro rfl (And.intro (Nat.succ_pos _) (And.intro (Nat.le_of_ble_eq_true rfl) (Exists.intro (H ++ [some ⟨39, r.enc.cells⟩]) (And.intro (set_last _ _ _) (Exists.intro [] (And.intro (nil_cells _) ?_))))))
        refine Exists.intro _ (And.intro (idx_need (by omega)) ?_)
        refine Exists.intro _ (And.intro (get_app hb _) (wRd_bool hbi ?_))
        cases b with
        | false =>
          refine And.intro (fun h => by cases h) (fun _ => ?_)
          refine Exists.intro (.int .i64 ((i + 1 : Nat) : Int)) (And.intro (i64_eq (by omega) (by omega) (by omega)) ?_)
          exact ih (i + 1) _ [] _ (by omega) (by omega) (hpf.app _) (get_app hb _) (.inl ⟨rfl, rfl⟩)
        | true =>
          refine And.intro (fun _ => ?_) (fun h => by cases h)
          refine Exists.intro _ (And.intro (get_last _ _) ?_)
          refine Exists.intro _ (And.intro rfl ?_)
          refine And.intro rfl (And.intro (Nat.succ_pos _) (And.intro (Nat.le_of_ble_eq_true rfl) (And.intro (Nat.le_of_ble_eq_true rfl) (And.intro (Nat.le_of_ble_eq_true rfl) (And.intro rfl (Exists.intro _ (And.intro rfl (Exists.intro _ (And.intro rfl ?_)))))))))
          refine Exists.intro (.int .i64 ((i + 1 : Nat) : Int)) (And.intro (i64_eq (by omega) (by omega) (by omega)) ?_)
          exact ih (i + 1) _ ([] ++ [r]) _ (by omega) (by simp only [List.nil_append, List.length_cons, List.length_nil] at hxs ⊢; omega) ((hpf.app _).app _) (get_app (get_app hb _) _) (.inr ⟨_, [], Nat.le_trans hpf.len (by rw [List.length_append]; omega), rfl, get_last _ _, Nat.succ_pos _⟩)
      · exfalso
        have h := dec_false (p := (i : Int) < ((run.map Row.enc).length : Nat)) h
        rw [List.length_map] at h
        omega
    · refine And.intro (fun h => ?_) (fun h => ?_)
      · clear h
        refine And.intro (Int.natCast_nonneg _) (Exists.intro _ (And.intro (get_row hr) ?_))
        refine Exists.intro _ (And.intro rfl (Exists.intro _ (And.intro rfl ?_)))
        refine Exists.intro _ (And.intro (get_last _ _) ?_)
        refine And.intro rfl (And.intro (Nat.succ_pos _) (And.intro (Nat.le_of_ble_eq_true rfl) (Exists.intro (H ++ [some ⟨39, r.enc.cells⟩]) (And.intro (set_last _ _ _) (Exists.intro [] (And.intro (nil_cells _) ?_))))))
        refine Exists.intro _ (And.intro (idx_need (by omega)) ?_)
        refine Exists.intro _ (And.intro (get_app hb _) (wRd_bool hbi ?_))
        cases b with
        | false =>
          refine And.intro (fun h => by cases h) (fun _ => ?_)
          refine Exists.intro (.int .i64 ((i + 1 : Nat) : Int)) (And.intro (i64_eq (by omega) (by omega) (by omega)) ?_)
          exact ih (i + 1) _ xs _ (by omega) (by omega) (hpf.app _) (get_app hb _) (.inr ⟨ido, rest, hge, rfl, get_app hout _, hpos⟩)
        | true =>
          refine And.intro (fun _ => ?_) (fun h => by cases h)
          refine Exists.intro _ (And.intro (get_last _ _) ?_)
          refine Exists.intro _ (And.intro rfl ?_)
          refine Exists.intro _ (And.intro (get_app hout _) (And.intro rfl (And.intro rfl (And.intro rfl (And.intro rfl (And.intro hpos (And.intro (?_ : xs.length * 4 ≤ (flat (xs.map Row.enc) ++ rest).length) (And.intro (?_ : (xs.length + 1) * 48 ≤ 140737488355328) (And.intro (?_ : xs.length + 1 ≤ 140737488355328) (And.intro (Nat.le_of_ble_eq_true rfl) (And.intro rfl (Exists.intro _ (And.intro rfl (Exists.intro ((H ++ [some (Blk.mk 39 r.enc.cells)]).set ido (some (Blk.mk 39 [])) ++ [some (Blk.mk 39 (flat ((xs ++ [r]).map Row.enc) ++ []))]) (And.intro (?_ : ((H ++ [some (Blk.mk 39 r.enc.cells)]).set ido (some (Blk.mk 39 [])) ++ [some (Blk.mk 39 ((flat (xs.map Row.enc) ++ rest).take (xs.length * 4) ++ r.enc.cells))] : Hp) = _) (Exists.intro (xs ++ [r]).length (And.intro (?_ : xs.length + 1 = _) ?_)))))))))))))))))
          · rw [List.length_append, flat_rows]; omega
          · omega
          · omega
          · rw [flat_take, flat_snoc, List.append_nil]
          · rw [List.length_append]; rfl
          refine Exists.intro (.int .i64 ((i + 1 : Nat) : Int)) (And.intro (i64_eq (by omega) (by omega) (by omega)) ?_)
          have hne : ido ≠ idn := by
            rintro rfl
            rw [hb] at hout
            injection hout with hout; injection hout with hout; injection hout with hout _
            cases hout
          have hb2 : (((H ++ [some (Blk.mk 39 r.enc.cells)]).set ido (some (Blk.mk 39 []))) ++ [some (Blk.mk 39 (flat ((xs ++ [r]).map Row.enc) ++ []))])[idn]? = some (some ⟨4, fl.map AV.bool⟩) := by
            refine get_app ?_ _
            rw [List.getElem?_set_ne hne]
            exact get_app hb _
          have hlen2 : (H ++ [some (Blk.mk 39 r.enc.cells)]).length = ((H ++ [some (Blk.mk 39 r.enc.cells)]).set ido (some (Blk.mk 39 []))).length := by rw [List.length_set]
          refine ih (i + 1) _ (xs ++ [r]) _ (by omega) (by rw [List.length_append, List.length_singleton]; omega) (((hpf.app _).set hge _).app _) hb2 (.inr ⟨_, [], Nat.le_trans hpf.len (by rw [List.length_append]; omega), rfl, ?_, ?_⟩)
          · rw [hlen2]; exact get_last _ _
          · rw [List.append_nil, flat_rows, List.length_append]; simp
      · exfalso
        have h := dec_false (p := (i : Int) < ((run.map Row.enc).length : Nat)) h
        rw [List.length_map] at h
        omega
noncomputable abbrev c17p : Code := at_ Try.f17 [true, true, true, false, true, false, false, true, true, false, false, true, true, true, true, true, true, false, false]
theorem last_get {xs : List Row} (h : 0 < xs.length) : ∃ r, xs[xs.length - 1]? = some r := ⟨xs[xs.length - 1], List.getElem?_eq_getElem (by omega)⟩
theorem OutAt.pop {n0 : Nat} {H : Hp} {id : Nat} {xs : List Row} {rest : List AV} (hge : n0 ≤ id) (hout : H[id]? = some (some ⟨39, flat (xs.map Row.enc) ++ rest⟩)) (hpos : 0 < (flat (xs.map Row.enc) ++ rest).length) {m : Nat} (hm : m ≤ xs.length) : OutAt n0 H (.sl 39 id 0 m) (xs.take m) := by
  have e : flat (xs.map Row.enc) = flat ((xs.take m).map Row.enc) ++ flat ((xs.drop m).map Row.enc) := by
    rw [← flat_append, ← List.map_append, List.take_append_drop]
  refine .inr ⟨id, flat ((xs.drop m).map Row.enc) ++ rest, hge, ?_, ?_, ?_⟩
  · rw [List.length_take, Nat.min_eq_left hm]
  · rw [← List.append_assoc, ← e]; exact hout
  · rw [← List.append_assoc, ← e]; exact hpos

theorem pop_nil (n0 : Nat) (rs : List (List Row)) (bot : Bool) (fr : Nat) (c23 c24 : Int) (H : Hp) : ∀ (m : Nat) (o : AV) (xs : List Row), xs.length = m → xs.length < 4611686018427387904 → OutAt n0 H o xs →
    L Try.prog K0 (K0.vars 17) 90 c17p [(1, AV.nils), (2, .bool bot), (8, o), (15, .int .i64 (fr : Nat)), (22, .lst 22 (rs.map encRun) []), (23, .int .i64 c23), (24, .int .i64 c24)] H [] []
      (fun e env H' sl cl => cl = [] ∧ sl = [] ∧ e = .exit 6 ∧ H' = H ∧ ∃ o', OutAt n0 H o' (popFrom bot fr m xs) ∧ ∃ v82, env = [(1, AV.nils), (2, .bool bot), (8, o'), (15, .int .i64 (fr : Nat)), (22, .lst 22 (rs.map encRun) []), (23, .int .i64 c23), (24, .int .i64 c24), (82, v82)]) := by
  intro m
  induction m with
  | zero =>
    intro o xs hm hlt ho
    obtain rfl : xs = [] := List.eq_nil_of_length_eq_zero hm
    have hstep : popFrom bot fr 0 [] = [] := rfl
    rw [hstep]
    refine L_round ?_
    rcases ho with ⟨rfl, _⟩ | ⟨ido, rest, hge, rfl, hout, hpos⟩
    · refine And.intro (fun h => ?_) (fun h => ?_)
      · refine And.intro (fun h => ?_) (fun h => ?_)
        · exfalso
          have h := dec_true (p := ((0 : Nat) : Int) > (fr : Int)) h
          omega
        · refine And.intro (fun h => by cases h) (fun _ => ?_)
          exact And.intro rfl (And.intro rfl (And.intro rfl (And.intro rfl ⟨_, .inl ⟨rfl, rfl⟩, _, rfl⟩)))
      · refine And.intro (fun h => by cases h) (fun _ => ?_)
        refine And.intro (fun h => by cases h) (fun _ => ?_)
        exact And.intro rfl (And.intro rfl (And.intro rfl (And.intro rfl ⟨_, .inl ⟨rfl, rfl⟩, _, rfl⟩)))
    · refine And.intro (fun h => ?_) (fun h => ?_)
      · refine And.intro (fun h => ?_) (fun h => ?_)
        · exfalso
          have h := dec_true (p := ((0 : Nat) : Int) > (fr : Int)) h
          omega
        · refine And.intro (fun h => by cases h) (fun _ => ?_)
          exact And.intro rfl (And.intro rfl (And.intro rfl (And.intro rfl ⟨_, .inr ⟨ido, rest, hge, rfl, hout, hpos⟩, _, rfl⟩)))
      · refine And.intro (fun h => by cases h) (fun _ => ?_)
        refine And.intro (fun h => by cases h) (fun _ => ?_)
        exact And.intro rfl (And.intro rfl (And.intro rfl (And.intro rfl ⟨_, .inr ⟨ido, rest, hge, rfl, hout, hpos⟩, _, rfl⟩)))
  | succ m ih =>
    intro o xs hm hlt ho
    obtain ⟨r, hr⟩ := last_get (xs := xs) (by omega)
    refine L_round ?_
    rcases ho with ⟨rfl, rfl⟩ | ⟨ido, rest, hge, rfl, hout, hpos⟩
    · cases hm
    refine And.intro (fun h0 => ?_) (fun h0 => ?_)
    · replace h0 : bot = true := h0
      refine And.intro (fun h1 => ?_) (fun h1 => ?_)
      · have h1 := dec_true (p := (xs.length : Int) > (fr : Int)) h1
        have hc : (bot && decide (xs.length > fr)) = true := by rw [h0]; simp; omega
        refine Exists.intro (.int .i64 ((xs.length - 1 : Nat) : Int)) (And.intro (i64_eq (by omega) (by omega) (by omega)) ?_)
        refine Exists.intro _ (And.intro (idx_row (by omega)) ?_)
        refine Exists.intro _ (And.intro hout (wRd_int (kind_at xs rest hr) ?_))
        refine And.intro (fun h2 => ?_) (fun h2 => ?_)
        · replace h2 : (r.kind != 1) = true := h2
          have hstep : popFrom bot fr (m + 1) xs = popFrom bot fr m (xs.take (xs.length - 1)) := by simp only [popFrom, hc, hr, h2]
          rw [hstep]
          refine Exists.intro (.int .i64 ((xs.length - 1 : Nat) : Int)) (And.intro (i64_eq (by omega) (by omega) (by omega)) ?_)
          refine Exists.intro _ (And.intro (cut_sl (Nat.sub_le _ _)) ?_)
          exact ih _ (xs.take (xs.length - 1)) (by rw [List.length_take]; omega) (by rw [List.length_take]; omega) (OutAt.pop hge hout hpos (Nat.sub_le _ _))
        · replace h2 : (r.kind != 1) = false := h2
          have hstep : popFrom bot fr (m + 1) xs = xs := by simp only [popFrom, hc, hr, h2]
          rw [hstep]
          exact And.intro rfl (And.intro rfl (And.intro rfl (And.intro rfl ⟨_, .inr ⟨ido, rest, hge, rfl, hout, hpos⟩, _, rfl⟩)))
      · have h1 := dec_false (p := (xs.length : Int) > (fr : Int)) h1
        have hc : (bot && decide (xs.length > fr)) = false := by rw [h0]; simp; omega
        have hstep : popFrom bot fr (m + 1) xs = xs := by simp only [popFrom, hc, hr]
        rw [hstep]
        refine And.intro (fun h => by cases h) (fun _ => ?_)
        exact And.intro rfl (And.intro rfl (And.intro rfl (And.intro rfl ⟨_, .inr ⟨ido, rest, hge, rfl, hout, hpos⟩, _, rfl⟩)))
    · replace h0 : bot = false := h0
      have hc : (bot && decide (xs.length > fr)) = false := by rw [h0]; rfl
      have hstep : popFrom bot fr (m + 1) xs = xs := by simp only [popFrom, hc, hr]
      rw [hstep]
      refine And.intro (fun h => by cases h) (fun _ => ?_)
      refine And.intro (fun h => by cases h) (fun _ => ?_)
      exact And.intro rfl (And.intro rfl (And.intro rfl (And.intro rfl ⟨_, .inr ⟨ido, rest, hge, rfl, hout, hpos⟩, _, rfl⟩)))

theorem popx_nil (n0 : Nat) (rs : List (List Row)) (bot : Bool) (fr : Nat) (c23 c24 : Int) (H : Hp) (v11 v50 v51 v52 v53 : AV) : ∀ (m : Nat) (o : AV) (xs : List Row), xs.length = m → xs.length < 4611686018427387904 → OutAt n0 H o xs →
    L Try.prog K0 (K0.vars 17) 90 c17p [(1, AV.nils), (2, .bool bot), (8, o), (11, v11), (15, .int .i64 (fr : Nat)), (22, .lst 22 (rs.map encRun) []), (23, .int .i64 c23), (24, .int .i64 c24), (50, v50), (51, v51), (52, v52), (53, v53)] H [] []
      (fun e env H' sl cl => cl = [] ∧ sl = [] ∧ e = .exit 6 ∧ H' = H ∧ ∃ o', OutAt n0 H o' (popFrom bot fr m xs) ∧ ∃ v82, env = [(1, AV.nils), (2, .bool bot), (8, o'), (15, .int .i64 (fr : Nat)), (22, .lst 22 (rs.map encRun) []), (23, .int .i64 c23), (24, .int .i64 c24), (82, v82)]) := by
  intro m
  cases m with
  | zero =>
    intro o xs hm hlt ho
    obtain rfl : xs = [] := List.eq_nil_of_length_eq_zero hm
    have hstep : popFrom bot fr 0 [] = [] := rfl
    rw [hstep]
    refine L_round ?_
    rcases ho with ⟨rfl, _⟩ | ⟨ido, rest, hge, rfl, hout, hpos⟩
    · refine And.intro (fun h => ?_) (fun h => ?_)
      · refine And.intro (fun h => ?_) (fun h => ?_)
        · exfalso
          have h := dec_true (p := ((0 : Nat) : Int) > (fr : Int)) h
          omega
        · refine And.intro (fun h => by cases h) (fun _ => ?_)
          exact And.intro rfl (And.intro rfl (And.intro rfl (And.intro rfl ⟨_, .inl ⟨rfl, rfl⟩, _, rfl⟩)))
      · refine And.intro (fun h => by cases h) (fun _ => ?_)
        refine And.intro (fun h => by cases h) (fun _ => ?_)
        exact And.intro rfl (And.intro rfl (And.intro rfl (And.intro rfl ⟨_, .inl ⟨rfl, rfl⟩, _, rfl⟩)))
    · refine And.intro (fun h => ?_) (fun h => ?_)
      · refine And.intro (fun h => ?_) (fun h => ?_)
        · exfalso
          have h := dec_true (p := ((0 : Nat) : Int) > (fr : Int)) h
          omega
        · refine And.intro (fun h => by cases h) (fun _ => ?_)
          exact And.intro rfl (And.intro rfl (And.intro rfl (And.intro rfl ⟨_, .inr ⟨ido, rest, hge, rfl, hout, hpos⟩, _, rfl⟩)))
      · refine And.intro (fun h => by cases h) (fun _ => ?_)
        refine And.intro (fun h => by cases h) (fun _ => ?_)
        exact And.intro rfl (And.intro rfl (And.intro rfl (And.intro rfl ⟨_, .inr ⟨ido, rest, hge, rfl, hout, hpos⟩, _, rfl⟩)))
  | succ m =>
    intro o xs hm hlt ho
    obtain ⟨r, hr⟩ := last_get (xs := xs) (by omega)
    refine L_round ?_
    rcases ho with ⟨rfl, rfl⟩ | ⟨ido, rest, hge, rfl, hout, hpos⟩
    · cases hm
    refine And.intro (fun h0 => ?_) (fun h0 => ?_)
    · replace h0 : bot = true := h0
      refine And.intro (fun h1 => ?_) (fun h1 => ?_)
      · have h1 := dec_true (p := (xs.length : Int) > (fr : Int)) h1
        have hc : (bot && decide (xs.length > fr)) = true := by rw [h0]; simp; omega
        refine Exists.intro (.int .i64 ((xs.length - 1 : Nat) : Int)) (And.intro (i64_eq (by omega) (by omega) (by omega)) ?_)
        refine Exists.intro _ (And.intro (idx_row (by omega)) ?_)
        refine Exists.intro _ (And.intro hout (wRd_int (kind_at xs rest hr) ?_))
        refine And.intro (fun h2 => ?_) (fun h2 => ?_)
        · replace h2 : (r.kind != 1) = true := h2
          have hstep : popFrom bot fr (m + 1) xs = popFrom bot fr m (xs.take (xs.length - 1)) := by simp only [popFrom, hc, hr, h2]
          rw [hstep]
          refine Exists.intro (.int .i64 ((xs.length - 1 : Nat) : Int)) (And.intro (i64_eq (by omega) (by omega) (by omega)) ?_)
          refine Exists.intro _ (And.intro (cut_sl (Nat.sub_le _ _)) ?_)
          exact pop_nil n0 rs bot fr c23 c24 H m _ (xs.take (xs.length - 1)) (by rw [List.length_take]; omega) (by rw [List.length_take]; omega) (OutAt.pop hge hout hpos (Nat.sub_le _ _))
        · replace h2 : (r.kind != 1) = false := h2
          have hstep : popFrom bot fr (m + 1) xs = xs := by simp only [popFrom, hc, hr, h2]
          rw [hstep]
          exact And.intro rfl (And.intro rfl (And.intro rfl (And.intro rfl ⟨_, .inr ⟨ido, rest, hge, rfl, hout, hpos⟩, _, rfl⟩)))
      · have h1 := dec_false (p := (xs.length : Int) > (fr : Int)) h1
        have hc : (bot && decide (xs.length > fr)) = false := by rw [h0]; simp; omega
        have hstep : popFrom bot fr (m + 1) xs = xs := by simp only [popFrom, hc, hr]
        rw [hstep]
        refine And.intro (fun h => by cases h) (fun _ => ?_)
        exact And.intro rfl (And.intro rfl (And.intro rfl (And.intro rfl ⟨_, .inr ⟨ido, rest, hge, rfl, hout, hpos⟩, _, rfl⟩)))
    · replace h0 : bot = false := h0
      have hc : (bot && decide (xs.length > fr)) = false := by rw [h0]; rfl
      have hstep : popFrom bot fr (m + 1) xs = xs := by simp only [popFrom, hc, hr]
      rw [hstep]
      refine And.intro (fun h => by cases h) (fun _ => ?_)
      refine And.intro (fun h => by cases h) (fun _ => ?_)
      exact And.intro rfl (And.intro rfl (And.intro rfl (And.intro rfl ⟨_, .inr ⟨ido, rest, hge, rfl, hout, hpos⟩, _, rfl⟩)))

theorem pop_lst (n0 : Nat) (rs : List (List Row)) (mx sm : List AV) (bot : Bool) (fr : Nat) (c23 c24 : Int) (H : Hp) : ∀ (m : Nat) (o : AV) (xs : List Row), xs.length = m → xs.length < 4611686018427387904 → OutAt n0 H o xs →
    L Try.prog K0 (K0.vars 17) 90 c17p [(1, AV.lst 23 mx sm), (2, .bool bot), (8, o), (15, .int .i64 (fr : Nat)), (22, .lst 22 (rs.map encRun) []), (23, .int .i64 c23), (24, .int .i64 c24)] H [] []
      (fun e env H' sl cl => cl = [] ∧ sl = [] ∧ e = .exit 6 ∧ H' = H ∧ ∃ o', OutAt n0 H o' (popFrom bot fr m xs) ∧ ∃ v82, env = [(1, AV.lst 23 mx sm), (2, .bool bot), (8, o'), (15, .int .i64 (fr : Nat)), (22, .lst 22 (rs.map encRun) []), (23, .int .i64 c23), (24, .int .i64 c24), (82, v82)]) := by
  intro m
  induction m with
  | zero =>
    intro o xs hm hlt ho
    obtain rfl : xs = [] := List.eq_nil_of_length_eq_zero hm
    have hstep : popFrom bot fr 0 [] = [] := rfl
    rw [hstep]
    refine L_round ?_
    rcases ho with ⟨rfl, _⟩ | ⟨ido, rest, hge, rfl, hout, hpos⟩
    · refine And.intro (fun h => ?_) (fun h => ?_)
      · refine And.intro (fun h => ?_) (fun h => ?_)
        · exfalso
          have h := dec_true (p := ((0 : Nat) : Int) > (fr : Int)) h
          omega
        · refine And.intro (fun h => by cases h) (fun _ => ?_)
          exact And.intro rfl (And.intro rfl (And.intro rfl (And.intro rfl ⟨_, .inl ⟨rfl, rfl⟩, _, rfl⟩)))
      · refine And.intro (fun h => by cases h) (fun _ => ?_)
        refine And.intro (fun h => by cases h) (fun _ => ?_)
        exact And.intro rfl (And.intro rfl (And.intro rfl (And.intro rfl ⟨_, .inl ⟨rfl, rfl⟩, _, rfl⟩)))
    · refine And.intro (fun h => ?_) (fun h => ?_)
      · refine And.intro (fun h => ?_) (fun h => ?_)
        · exfalso
          have h := dec_true (p := ((0 : Nat) : Int) > (fr : Int)) h
          omega
        · refine And.intro (fun h => by cases h) (fun _ => ?_)
          exact And.intro rfl (And.intro rfl (And.intro rfl (And.intro rfl ⟨_, .inr ⟨ido, rest, hge, rfl, hout, hpos⟩, _, rfl⟩)))
      · refine And.intro (fun h => by cases h) (fun _ => ?_)
        refine And.intro (fun h => by cases h) (fun _ => ?_)
        exact And.intro rfl (And.intro rfl (And.intro rfl (And.intro rfl ⟨_, .inr ⟨ido, rest, hge, rfl, hout, hpos⟩, _, rfl⟩)))
  | succ m ih =>
    intro o xs hm hlt ho
    obtain ⟨r, hr⟩ := last_get (xs := xs) (by omega)
    refine L_round ?_
    rcases ho with ⟨rfl, rfl⟩ | ⟨ido, rest, hge, rfl, hout, hpos⟩
    · cases hm
    refine And.intro (fun h0 => ?_) (fun h0 => ?_)
    · replace h0 : bot = true := h0
      refine And.intro (fun h1 => ?_) (fun h1 => ?_)
      · have h1 := dec_true (p := (xs.length : Int) > (fr : Int)) h1
        have hc : (bot && decide (xs.length > fr)) = true := by rw [h0]; simp; omega
        refine Exists.intro (.int .i64 ((xs.length - 1 : Nat) : Int)) (And.intro (i64_eq (by omega) (by omega) (by omega)) ?_)
        refine Exists.intro _ (And.intro (idx_row (by omega)) ?_)
        refine Exists.intro _ (And.intro hout (wRd_int (kind_at xs rest hr) ?_))
        refine And.intro (fun h2 => ?_) (fun h2 => ?_)
        · replace h2 : (r.kind != 1) = true := h2
          have hstep : popFrom bot fr (m + 1) xs = popFrom bot fr m (xs.take (xs.length - 1)) := by simp only [popFrom, hc, hr, h2]
          rw [hstep]
          refine Exists.intro (.int .i64 ((xs.length - 1 : Nat) : Int)) (And.intro (i64_eq (by omega) (by omega) (by omega)) ?_)
          refine Exists.intro _ (And.intro (cut_sl (Nat.sub_le _ _)) ?_)
          exact ih _ (xs.take (xs.length - 1)) (by rw [List.length_take]; omega) (by rw [List.length_take]; omega) (OutAt.pop hge hout hpos (Nat.sub_le _ _))
        · replace h2 : (r.kind != 1) = false := h2
          have hstep : popFrom bot fr (m + 1) xs = xs := by simp only [popFrom, hc, hr, h2]
          rw [hstep]
          exact And.intro rfl (And.intro rfl (And.intro rfl (And.intro rfl ⟨_, .inr ⟨ido, rest, hge, rfl, hout, hpos⟩, _, rfl⟩)))
      · have h1 := dec_false (p := (xs.length : Int) > (fr : Int)) h1
        have hc : (bot && decide (xs.length > fr)) = false := by rw [h0]; simp; omega
        have hstep : popFrom bot fr (m + 1) xs = xs := by simp only [popFrom, hc, hr]
        rw [hstep]
        refine And.intro (fun h => by cases h) (fun _ => ?_)
        exact And.intro rfl (And.intro rfl (And.intro rfl (And.intro rfl ⟨_, .inr ⟨ido, rest, hge, rfl, hout, hpos⟩, _, rfl⟩)))
    · replace h0 : bot = false := h0
      have hc : (bot && decide (xs.length > fr)) = false := by rw [h0]; rfl
      have hstep : popFrom bot fr (m + 1) xs = xs := by simp only [popFrom, hc, hr]
      rw [hstep]
      refine And.intro (fun h => by cases h) (fun _ => ?_)
      refine And.intro (fun h => by cases h) (fun _ => ?_)
      exact And.intro rfl (And.intro rfl (And.intro rfl (And.intro rfl ⟨_, .inr ⟨ido, rest, hge, rfl, hout, hpos⟩, _, rfl⟩)))

theorem popx_lst (n0 : Nat) (rs : List (List Row)) (mx sm : List AV) (bot : Bool) (fr : Nat) (c23 c24 : Int) (H : Hp) (v11 v50 v51 v52 v53 : AV) : ∀ (m : Nat) (o : AV) (xs : List Row), xs.length = m → xs.length < 4611686018427387904 → OutAt n0 H o xs →
    L Try.prog K0 (K0.vars 17) 90 c17p [(1, AV.lst 23 mx sm), (2, .bool bot), (8, o), (11, v11), (15, .int .i64 (fr : Nat)), (22, .lst 22 (rs.map encRun) []), (23, .int .i64 c23), (24, .int .i64 c24), (50, v50), (51, v51), (52, v52), (53, v53)] H [] []
      (fun e env H' sl cl => cl = [] ∧ sl = [] ∧ e = .exit 6 ∧ H' = H ∧ ∃ o', OutAt n0 H o' (popFrom bot fr m xs) ∧ ∃ v82, env = [(1, AV.lst 23 mx sm), (2, .bool bot), (8, o'), (15, .int .i64 (fr : Nat)), (22, .lst 22 (rs.map encRun) []), (23, .int .i64 c23), (24, .int .i64 c24), (82, v82)]) := by
  intro m
  cases m with
  | zero =>
    intro o xs hm hlt ho
    obtain rfl : xs = [] := List.eq_nil_of_length_eq_zero hm
    have hstep : popFrom bot fr 0 [] = [] := rfl
    rw [hstep]
    refine L_round ?_
    rcases ho with ⟨rfl, _⟩ | ⟨ido, rest, hge, rfl, hout, hpos⟩
    · refine And.intro (fun h => ?_) (fun h => ?_)
      · refine And.intro (fun h => ?_) (fun h => ?_)
        · exfalso
          have h := dec_true (p := ((0 : Nat) : Int) > (fr : Int)) h
          omega
        · refine And.intro (fun h => by cases h) (fun _ => ?_)
          exact And.intro rfl (And.intro rfl (And.intro rfl (And.intro rfl ⟨_, .inl ⟨rfl, rfl⟩, _, rfl⟩)))
      · refine And.intro (fun h => by cases h) (fun _ => ?_)
        refine And.intro (fun h => by cases h) (fun _ => ?_)
        exact And.intro rfl (And.intro rfl (And.intro rfl (And.intro rfl ⟨_, .inl ⟨rfl, rfl⟩, _, rfl⟩)))
    · refine And.intro (fun h => ?_) (fun h => ?_)
      · refine And.intro (fun h => ?_) (fun h => ?_)
        · exfalso
          have h := dec_true (p := ((0 : Nat) : Int) > (fr : Int)) h
          omega
        · refine And.intro (fun h => by cases h) (fun _ => ?_)
          exact And.intro rfl (And.intro rfl (And.intro rfl (And.intro rfl ⟨_, .inr ⟨ido, rest, hge, rfl, hout, hpos⟩, _, rfl⟩)))
      · refine And.intro (fun h => by cases h) (fun _ => ?_)
        refine And.intro (fun h => by cases h) (fun _ => ?_)
        exact And.intro rfl (And.intro rfl (And.intro rfl (And.intro rfl ⟨_, .inr ⟨ido, rest, hge, rfl, hout, hpos⟩, _, rfl⟩)))
  | succ m =>
    intro o xs hm hlt ho
    obtain ⟨r, hr⟩ := last_get (xs := xs) (by omega)
    refine L_round ?_
    rcases ho with ⟨rfl, rfl⟩ | ⟨ido, rest, hge, rfl, hout, hpos⟩
    · cases hm
    refine And.intro (fun h0 => ?_) (fun h0 => ?_)
    · replace h0 : bot = true := h0
      refine And.intro (fun h1 => ?_) (fun h1 => ?_)
      · have h1 := dec_true (p := (xs.length : Int) > (fr : Int)) h1
        have hc : (bot && decide (xs.length > fr)) = true := by rw [h0]; simp; omega
        refine Exists.intro (.int .i64 ((xs.length - 1 : Nat) : Int)) (And.intro (i64_eq (by omega) (by omega) (by omega)) ?_)
        refine Exists.intro _ (And.intro (idx_row (by omega)) ?_)
        refine Exists.intro _ (And.intro hout (wRd_int (kind_at xs rest hr) ?_))
        refine And.intro (fun h2 => ?_) (fun h2 => ?_)
        · replace h2 : (r.kind != 1) = true := h2
          have hstep : popFrom bot fr (m + 1) xs = popFrom bot fr m (xs.take (xs.length - 1)) := by simp only [popFrom, hc, hr, h2]
          rw [hstep]
          refine Exists.intro (.int .i64 ((xs.length - 1 : Nat) : Int)) (And.intro (i64_eq (by omega) (by omega) (by omega)) ?_)
          refine Exists.intro _ (And.intro (cut_sl (Nat.sub_le _ _)) ?_)
          exact pop_lst n0 rs mx sm bot fr c23 c24 H m _ (xs.take (xs.length - 1)) (by rw [List.length_take]; omega) (by rw [List.length_take]; omega) (OutAt.pop hge hout hpos (Nat.sub_le _ _))
        · replace h2 : (r.kind != 1) = false := h2
          have hstep : popFrom bot fr (m + 1) xs = xs := by simp only [popFrom, hc, hr, h2]
          rw [hstep]
          exact And.intro rfl (And.intro rfl (And.intro rfl (And.intro rfl ⟨_, .inr ⟨ido, rest, hge, rfl, hout, hpos⟩, _, rfl⟩)))
      · have h1 := dec_false (p := (xs.length : Int) > (fr : Int)) h1
        have hc : (bot && decide (xs.length > fr)) = false := by rw [h0]; simp; omega
        have hstep : popFrom bot fr (m + 1) xs = xs := by simp only [popFrom, hc, hr]
        rw [hstep]
        refine And.intro (fun h => by cases h) (fun _ => ?_)
        exact And.intro rfl (And.intro rfl (And.intro rfl (And.intro rfl ⟨_, .inr ⟨ido, rest, hge, rfl, hout, hpos⟩, _, rfl⟩)))
    · replace h0 : bot = false := h0
      have hc : (bot && decide (xs.length > fr)) = false := by rw [h0]; rfl
      have hstep : popFrom bot fr (m + 1) xs = xs := by simp only [popFrom, hc, hr]
      rw [hstep]
      refine And.intro (fun h => by cases h) (fun _ => ?_)
      refine And.intro (fun h => by cases h) (fun _ => ?_)
      exact And.intro rfl (And.intro rfl (And.intro rfl (And.intro rfl ⟨_, .inr ⟨ido, rest, hge, rfl, hout, hpos⟩, _, rfl⟩)))
end Go.Proofs.Ytnajopkaepjncaa

/- The heads of lists, as they lie in memory; their methods. -/
namespace Go.Proofs.Ytnajopkaepjncaa
open Am
set_option linter.unusedVariables false
set_option linter.unusedSimpArgs false
set_option maxRecDepth 8000

structure Hd where
  rest : List Row
  sp : List AV
  list : Int
def Hd.cells (h : Hd) : List AV := [.lst 39 (h.rest.map Row.enc) h.sp, .int .i64 h.list]
def Hd.enc (h : Hd) : AV := .agg h.cells
def flatH (hs : List Hd) : List AV := flat (hs.map Hd.enc)
theorem flatH_len (hs : List Hd) : (flatH hs).length = hs.length * 2 := by
  have := flat_len (sz := 2) (hs.map Hd.enc) (by
    intro x hx
    obtain ⟨r, _, rfl⟩ := List.mem_map.1 hx
    rfl)
  rw [List.length_map] at this
  exact this
theorem flatH_at (hs : List Hd) (rest : List AV) {i : Nat} {h : Hd} (hi : hs[i]? = some h) : (flatH hs ++ rest)[i * 2]? = some (.lst 39 (h.rest.map Row.enc) h.sp) ∧ (flatH hs ++ rest)[i * 2 + 1]? = some (.int .i64 h.list) := by
  have hlt : i < hs.length := (List.getElem?_eq_some_iff.1 hi).1
  have hc : ∀ x ∈ hs.map Hd.enc, x.cells.length = 2 := by
    intro x hx
    obtain ⟨r, _, rfl⟩ := List.mem_map.1 hx
    rfl
  have hget : (hs.map Hd.enc)[i]? = some h.enc := by rw [List.getElem?_map, hi]; rfl
  have h0 := flat_at (sz := 2) (hs.map Hd.enc) hc i 0 h.enc hget (by omega)
  have h1 := flat_at (sz := 2) (hs.map Hd.enc) hc i 1 h.enc hget (by omega)
  have hl := flatH_len hs
  have l0 : i * 2 < (flatH hs).length := by omega
  have l1 : i * 2 + 1 < (flatH hs).length := by omega
  rw [List.getElem?_append_left l0, List.getElem?_append_left l1]
  constructor
  · rw [List.getElem?_eq_getElem l0]
    rw [Nat.add_zero, List.getD_eq_getElem?_getD] at h0
    change ((flatH hs)[i * 2]?).getD .undef = _ at h0
    rw [List.getElem?_eq_getElem l0] at h0
    exact congrArg some h0
  · rw [List.getElem?_eq_getElem l1]
    rw [List.getD_eq_getElem?_getD] at h1
    change ((flatH hs)[i * 2 + 1]?).getD .undef = _ at h1
    rw [List.getElem?_eq_getElem l1] at h1
    exact congrArg some h1
theorem get_cell_drop {cs : List AV} {i : Nat} {v : AV} (h : cs[i]? = some v) : (cs.drop i).take 1 = [v] := by
  have hlt : i < cs.length := (List.getElem?_eq_some_iff.1 h).1
  rw [List.drop_eq_getElem_cons hlt]
  simp only [List.take_succ_cons, List.take_zero]
  rw [List.getElem?_eq_getElem hlt] at h
  injection h with h
  rw [h]
/-- A list, read out of a cell. -/
theorem wRd_lst {cs : List AV} {i : Nat} {xs sp : List AV} {k : AV → Prop} (h : cs[i]? = some (.lst 39 xs sp)) (hk : k (.lst 39 xs sp)) : wRd Try.prog 22 i cs k := by
  have hs : sizeT Try.prog 22 = some 1 := rfl
  have hlt : i < cs.length := (List.getElem?_eq_some_iff.1 h).1
  unfold wRd
  rw [hs]
  have e1 : Nat.ble (i + 1) cs.length = true := Nat.ble_eq_true_of_le hlt
  simp only [e1]
  rw [get_cell_drop h]
  exact hk
/-- A head, read whole. -/
theorem wRd_hd {cs : List AV} {i : Nat} {h : Hd} {k : AV → Prop} (h0 : cs[i]? = some (.lst 39 (h.rest.map Row.enc) h.sp)) (h1 : cs[i + 1]? = some (.int .i64 h.list)) (hk : k (.agg [.lst 39 (h.rest.map Row.enc) h.sp, .int .i64 h.list])) : wRd Try.prog 61 i cs k := by
  have hs : sizeT Try.prog 61 = some 2 := rfl
  have hlt : i + 1 < cs.length := (List.getElem?_eq_some_iff.1 h1).1
  unfold wRd
  rw [hs]
  have e1 : Nat.ble (i + 2) cs.length = true := Nat.ble_eq_true_of_le hlt
  simp only [e1]
  have e2 : (cs.drop i).take 2 = [.lst 39 (h.rest.map Row.enc) h.sp, .int .i64 h.list] := by
    rw [List.drop_eq_getElem_cons (by omega), List.drop_eq_getElem_cons hlt]
    simp only [List.take_succ_cons, List.take_zero]
    rw [List.getElem?_eq_getElem (by omega)] at h0
    rw [List.getElem?_eq_getElem hlt] at h1
    injection h0 with h0
    injection h1 with h1
    rw [h0, h1]
  rw [e2]
  exact hk
theorem idx_hd {id n i : Nat} (h : i < n) : indexAddrA Try.prog 57 (.sl 61 id 0 n) (.int .i64 (i : Int)) = some (.ptr id (i * 2)) := by
  have hu : Try.prog.underlying 57 = some (.slice 61) := Try.underlying57
  have hs : sizeT Try.prog 61 = some 2 := rfl
  unfold indexAddrA
  rw [hu]
  simp only [hs]
  have : inRange (i : Int) n = true := by unfold inRange; simp [h]
  rw [this]
  simp

/-! ### which of two heads stands ahead -/
def lessR (a b : Row) (i j : Int) : Bool := match a.key != b.key with
  | true => Op.bytesLess a.key b.key
  | false => match a.seq != b.seq with
    | true => decide (a.seq > b.seq)
    | false => decide (i < j)
def lessH (a b : Hd) : Bool := match a.rest, b.rest with
  | x :: _, y :: _ => lessR x y a.list b.list
  | _, _ => false

theorem get_two0 {α : Type} (H : List α) (a b : α) : (H ++ [a, b])[H.length + 0]? = some a := by simp
theorem get_two1 {α : Type} (H : List α) (a b : α) : (H ++ [a, b])[H.length + 1]? = some b := by simp
theorem set_two0 {α : Type} (H : List α) (a b c : α) : (H ++ [a, b]).set (H.length + 0) c = H ++ [c, b] := by simp
theorem set_two1 {α : Type} (H : List α) (a b c : α) : (H ++ [a, b]).set (H.length + 1) c = H ++ [a, c] := by simp
theorem blt_len {α : Type} {H : List α} {id : Nat} (h : id < H.length) : Nat.blt id H.length = true := by rw [Nat.blt_eq]; exact h
theorem ble_len (n k : Nat) : Nat.ble n (n + k) = true := Nat.ble_eq_true_of_le (Nat.le_add_right _ _)
theorem less_spec {H : Hp} {id : Nat} {hs : List Hd} {junk : List AV} (hb : H[id]? = some (some ⟨61, flatH hs ++ junk⟩)) {i j : Nat} {a b : Hd} (hi : hs[i]? = some a) (hj : hs[j]? = some b) {x y : Row} {xs ys : List Row} (hx : a.rest = x :: xs) (hy : b.rest = y :: ys) :
    ∃ E, CallsA Try.prog K0 61 [.sl 61 id 0 hs.length, .int .i64 (i : Int), .int .i64 (j : Int)] H [] (.bool (lessH a b)) (H ++ E) [] := by
  obtain ⟨a1, a2⟩ := flatH_at hs junk hi
  obtain ⟨b1, b2⟩ := flatH_at hs junk hj
  have hil : i < hs.length := (List.getElem?_eq_some_iff.1 hi).1
  have hjl : j < hs.length := (List.getElem?_eq_some_iff.1 hj).1
  have hidl : id < H.length := (List.getElem?_eq_some_iff.1 hb).1
  have hl : lessH a b = lessR x y a.list b.list := by unfold lessH; rw [hx, hy]
  rw [hx] at a1
  rw [hy] at b1
  rw [hl]
  have hb1 : (H ++ [none, none])[id]? = some (some ⟨61, flatH hs ++ junk⟩) := get_app hb _
  refine ⟨[some ⟨39, x.enc.cells⟩, some ⟨39, y.enc.cells⟩], ?_⟩
  refine calls_by Try.func61 rfl rfl rfl ?_
  refine Exists.intro _ (And.intro rfl (Exists.intro (H ++ [none, none]) (And.intro rfl ?_)))
  refine And.intro rfl (And.intro rfl (And.intro rfl (Exists.intro _ (And.intro (idx_hd hil) ?_))))
  refine And.intro rfl (And.intro (blt_len hidl) (Exists.intro _ (And.intro hb1 (wRd_lst a1 ?_))))
  refine And.intro rfl (And.intro (Int.le_refl _) (Exists.intro x.enc (And.intro rfl ?_)))
  refine And.intro rfl (And.intro rfl (And.intro rfl (And.intro rfl (Exists.intro _ (And.intro (idx_hd hjl) ?_)))))
  refine And.intro rfl (And.intro (blt_len hidl) (Exists.intro _ (And.intro hb1 (wRd_lst b1 ?_))))
  refine And.intro rfl (And.intro (Int.le_refl _) (Exists.intro y.enc (And.intro rfl ?_)))
  refine And.intro rfl ?_
  refine And.intro (get_two0 _ _ _) (Exists.intro _ (And.intro (set_two0 _ _ _ _) ?_))
  refine And.intro (get_two1 _ _ _) (Exists.intro _ (And.intro (set_two1 _ _ _ _) ?_))
  refine And.intro (ble_len _ _) (Exists.intro _ (And.intro (get_two0 _ _ _) (And.intro rfl (And.intro (Nat.succ_pos _) (And.intro (Nat.le_of_ble_eq_true rfl) (Exists.intro (H ++ [some ⟨39, x.enc.cells⟩, _]) (And.intro (set_two0 _ _ _ _) (Exists.intro [] (And.intro (nil_cells _) ?_)))))))))
  refine And.intro (ble_len _ _) (Exists.intro _ (And.intro (get_two1 _ _ _) (And.intro rfl (And.intro (Nat.succ_pos _) (And.intro (Nat.le_of_ble_eq_true rfl) (Exists.intro (H ++ [some ⟨39, x.enc.cells⟩, some ⟨39, y.enc.cells⟩]) (And.intro (set_two1 _ _ _ _) (Exists.intro [] (And.intro (nil_cells _) ?_)))))))))
  refine Exists.intro _ (And.intro (get_two0 _ _ _) ?_)
  refine Exists.intro _ (And.intro (get_two1 _ _ _) ?_)
  refine And.intro (fun h => ?_) (fun h => ?_)
  · replace h : (x.key != y.key) = true := h
    refine Exists.intro _ (And.intro (get_two0 _ _ _) ?_)
    refine Exists.intro _ (And.intro (get_two1 _ _ _) ?_)
    refine And.intro (congrArg some (congrArg AV.bool ?_)) (And.intro rfl rfl)
    unfold lessR; rw [h]
  · replace h : (x.key != y.key) = false := h
    refine Exists.intro _ (And.intro (get_two0 _ _ _) ?_)
    refine Exists.intro _ (And.intro (get_two1 _ _ _) ?_)
    refine And.intro (fun h2 => ?_) (fun h2 => ?_)
    · replace h2 : (x.seq != y.seq) = true := h2
      refine Exists.intro _ (And.intro (get_two0 _ _ _) ?_)
      refine Exists.intro _ (And.intro (get_two1 _ _ _) ?_)
      refine And.intro (congrArg some (congrArg AV.bool ?_)) (And.intro rfl rfl)
      unfold lessR; rw [h, h2]
    · replace h2 : (x.seq != y.seq) = false := h2
      have hb2 : (H ++ [some (Blk.mk 39 x.enc.cells), some (Blk.mk 39 y.enc.cells)])[id]? = some (some ⟨61, flatH hs ++ junk⟩) := get_app hb _
      refine Exists.intro _ (And.intro rfl ?_)
      refine Exists.intro _ (And.intro (idx_hd hil) ?_)
      refine Exists.intro _ (And.intro hb2 (wRd_int a2 ?_))
      refine Exists.intro _ (And.intro (idx_hd hjl) ?_)
      refine Exists.intro _ (And.intro hb2 (wRd_int b2 ?_))
      refine And.intro (congrArg some (congrArg AV.bool ?_)) (And.intro rfl rfl)
      unfold lessR; rw [h, h2]
theorem len_spec (id n : Nat) (H : Hp) : CallsA Try.prog K0 60 [.sl 61 id 0 n] H [] (.int .i64 (n : Int)) H [] := by
  refine calls_by Try.func60 rfl rfl rfl ?_
  exact And.intro rfl (And.intro rfl rfl)
end Go.Proofs.Ytnajopkaepjncaa

/- The heads' other methods; how they are called behind an interface. -/
namespace Go.Proofs.Ytnajopkaepjncaa
open Am
set_option linter.unusedVariables false
set_option linter.unusedSimpArgs false
set_option maxRecDepth 8000

theorem flatH_app (a b : List Hd) : flatH (a ++ b) = flatH a ++ flatH b := by unfold flatH; rw [List.map_append, flat_append]
theorem splice_hd (hs : List Hd) (junk : List AV) {i : Nat} (hi : i < hs.length) (b : Hd) : splice (flatH hs ++ junk) (i * 2) b.cells = flatH (hs.set i b) ++ junk := by
  have e : hs = hs.take i ++ (hs[i] :: hs.drop (i + 1)) := by
    rw [← List.drop_eq_getElem_cons hi, List.take_append_drop]
  have e2 : hs.set i b = hs.take i ++ (b :: hs.drop (i + 1)) := by
    rw [List.set_eq_take_append_cons_drop, if_pos hi]
  have hl : (flatH (hs.take i)).length = i * 2 := by rw [flatH_len, List.length_take]; omega
  have hf : flatH hs = flatH (hs.take i) ++ (hs[i].cells ++ flatH (hs.drop (i + 1))) := by
    have h1 : flatH (hs.take i ++ (hs[i] :: hs.drop (i + 1))) = flatH (hs.take i) ++ (hs[i].cells ++ flatH (hs.drop (i + 1))) := by rw [flatH_app]; rfl
    rw [← e] at h1
    exact h1
  rw [e2, flatH_app]
  unfold splice
  have h1 : (flatH hs ++ junk).take (i * 2) = flatH (hs.take i) := by
    rw [hf, List.append_assoc]
    exact List.take_left' hl
  have h2 : (flatH hs ++ junk).drop (i * 2 + b.cells.length) = flatH (hs.drop (i + 1)) ++ junk := by
    have : flatH hs ++ junk = (flatH (hs.take i) ++ hs[i].cells) ++ (flatH (hs.drop (i + 1)) ++ junk) := by rw [hf]; simp
    rw [this]
    exact List.drop_left' (by rw [List.length_append, hl]; rfl)
  rw [h1, h2]
  have : flatH (b :: hs.drop (i + 1)) = b.cells ++ flatH (hs.drop (i + 1)) := rfl
  rw [this]
  simp

theorem swap_spec {H : Hp} {id : Nat} {hs : List Hd} {junk : List AV} (hb : H[id]? = some (some ⟨61, flatH hs ++ junk⟩)) {i j : Nat} {a b : Hd} (hi : hs[i]? = some a) (hj : hs[j]? = some b) :
    CallsA Try.prog K0 62 [.sl 61 id 0 hs.length, .int .i64 (i : Int), .int .i64 (j : Int)] H [] (.tup []) (H.set id (some ⟨61, flatH ((hs.set i b).set j a) ++ junk⟩)) [] := by
  obtain ⟨a1, a2⟩ := flatH_at hs junk hi
  obtain ⟨b1, b2⟩ := flatH_at hs junk hj
  have hil : i < hs.length := (List.getElem?_eq_some_iff.1 hi).1
  have hjl : j < hs.length := (List.getElem?_eq_some_iff.1 hj).1
  have hidl : id < H.length := (List.getElem?_eq_some_iff.1 hb).1
  have hll : (flatH hs ++ junk).length = hs.length * 2 + junk.length := by rw [List.length_append, flatH_len]
  have hll2 : (flatH (hs.set i b) ++ junk).length = hs.length * 2 + junk.length := by rw [List.length_append, flatH_len, List.length_set]
  refine calls_by Try.func62 rfl rfl rfl ?_
  refine Exists.intro _ (And.intro rfl ?_)
  refine Exists.intro _ (And.intro (idx_hd hjl) ?_)
  refine Exists.intro _ (And.intro hb (wRd_hd b1 b2 ?_))
  refine Exists.intro _ (And.intro (idx_hd hil) ?_)
  refine Exists.intro _ (And.intro hb (wRd_hd a1 a2 ?_))
  refine Exists.intro _ (And.intro (idx_hd hil) ?_)
  refine Exists.intro _ (And.intro hb (And.intro rfl (And.intro (Nat.succ_pos _) (And.intro (?_ : i * 2 + 2 ≤ (flatH hs ++ junk).length) (Exists.intro (H.set id (some ⟨61, flatH (hs.set i b) ++ junk⟩)) (And.intro (?_ : H.set id (some (Blk.mk 61 (splice (flatH hs ++ junk) (i * 2) b.cells))) = _) (Exists.intro [] (And.intro (nil_cells _) ?_))))))))
  · omega
  · rw [splice_hd hs junk hil]
  refine Exists.intro _ (And.intro (idx_hd hjl) ?_)
  refine Exists.intro _ (And.intro (get_set_same hb _) (And.intro rfl (And.intro (Nat.succ_pos _) (And.intro (?_ : j * 2 + 2 ≤ (flatH (hs.set i b) ++ junk).length) (Exists.intro (H.set id (some ⟨61, flatH ((hs.set i b).set j a) ++ junk⟩)) (And.intro (?_ : (H.set id (some (Blk.mk 61 (flatH (hs.set i b) ++ junk)))).set id (some (Blk.mk 61 (splice (flatH (hs.set i b) ++ junk) (j * 2) a.cells))) = _) (Exists.intro [] (And.intro (nil_cells _) ?_))))))))
  · omega
  · rw [splice_hd (hs.set i b) junk (by rw [List.length_set]; exact hjl), List.set_set]
  exact And.intro rfl (And.intro rfl rfl)

/-! ### methods behind an interface -/
noncomputable def mRow (t : TypeId) (name : String) : Option (Bool × Option (FuncId × Bool)) := (Try.prog.info? t).bind fun i => (i.methods.find? (·.name == name)).map fun m => (m.path.size == 0, m.func)
theorem method_ptr {H : Hp} {t e : TypeId} {v : AV} {name : String} {f : FuncId} (hm : mRow t name = some (true, some (f, true))) (hu : Try.prog.underlying t = some (.pointer e)) : methodA Try.prog H t v name = some (f, v) := by
  unfold mRow at hm
  unfold methodA
  cases hi : Try.prog.info? t with
  | none => rw [hi] at hm; cases hm
  | some i =>
    rw [hi] at hm
    simp only [Option.bind_some] at hm ⊢
    cases hf : i.methods.find? (·.name == name) with
    | none => rw [hf] at hm; cases hm
    | some m =>
      rw [hf] at hm
      simp only [Option.map_some, Option.some.injEq, Prod.mk.injEq, beq_iff_eq] at hm ⊢
      rw [if_pos hm.1, hm.2, hu]
theorem method_val {H : Hp} {t e : TypeId} {id off : Nat} {x : AV} {name : String} {f : FuncId} (hm : mRow t name = some (true, some (f, false))) (hu : Try.prog.underlying t = some (.pointer e)) (hl : loadA Try.prog H e (.ptr id off) = some x) : methodA Try.prog H t (.ptr id off) name = some (f, x) := by
  unfold mRow at hm
  unfold methodA
  cases hi : Try.prog.info? t with
  | none => rw [hi] at hm; cases hm
  | some i =>
    rw [hi] at hm
    simp only [Option.bind_some] at hm ⊢
    cases hf : i.methods.find? (·.name == name) with
    | none => rw [hf] at hm; cases hm
    | some m =>
      rw [hf] at hm
      simp only [Option.map_some, Option.some.injEq, Prod.mk.injEq, beq_iff_eq] at hm ⊢
      rw [if_pos hm.1, hm.2, hu]
      simp only [hl, Option.map_some]
theorem m_len : mRow 59 "Len" = some (true, some (60, false)) := by kernel_rfl
theorem m_less : mRow 59 "Less" = some (true, some (61, false)) := by kernel_rfl
theorem m_swap : mRow 59 "Swap" = some (true, some (62, false)) := by kernel_rfl
theorem m_pop : mRow 59 "Pop" = some (true, some (63, true)) := by kernel_rfl
theorem m_push : mRow 59 "Push" = some (true, some (64, true)) := by kernel_rfl
/-- The variable that holds the heads. -/
def VarAt (H : Hp) (idv id n : Nat) : Prop := H[idv]? = some (some ⟨57, [.sl 61 id 0 n]⟩)
theorem load_var {H : Hp} {idv : Nat} {x : AV} (h : H[idv]? = some (some ⟨57, [x]⟩)) (hx : x.isOne = true) : loadA Try.prog H 57 (.ptr idv 0) = some x := by
  have hs : sizeT Try.prog 57 = some 1 := rfl
  have hg : isAggT Try.prog 57 = some false := rfl
  unfold loadA readCells
  rw [hs]
  simp only [h, List.length_cons, List.length_nil, Nat.zero_add, Nat.le_refl, if_true, List.drop_zero, List.take_succ_cons, List.take_zero]
  unfold ofCells
  rw [hg]
  simp only [hx, if_true]
theorem at_len {H : Hp} {idv id n : Nat} (h : VarAt H idv id n) : methodA Try.prog H 59 (.ptr idv 0) "Len" = some (60, .sl 61 id 0 n) := method_val m_len Try.underlying59 (load_var h rfl)
theorem at_less {H : Hp} {idv id n : Nat} (h : VarAt H idv id n) : methodA Try.prog H 59 (.ptr idv 0) "Less" = some (61, .sl 61 id 0 n) := method_val m_less Try.underlying59 (load_var h rfl)
theorem at_swap {H : Hp} {idv id n : Nat} (h : VarAt H idv id n) : methodA Try.prog H 59 (.ptr idv 0) "Swap" = some (62, .sl 61 id 0 n) := method_val m_swap Try.underlying59 (load_var h rfl)
theorem at_pop {H : Hp} {idv : Nat} : methodA Try.prog H 59 (.ptr idv 0) "Pop" = some (63, .ptr idv 0) := method_ptr m_pop Try.underlying59
theorem at_push {H : Hp} {idv : Nat} : methodA Try.prog H 59 (.ptr idv 0) "Push" = some (64, .ptr idv 0) := method_ptr m_push Try.underlying59
end Go.Proofs.Ytnajopkaepjncaa

/- The heads' Push and Pop. -/
namespace Go.Proofs.Ytnajopkaepjncaa
open Am
set_option linter.unusedVariables false
set_option linter.unusedSimpArgs false
set_option maxRecDepth 8000

/-- The heads, in memory: the variable at idv holds them; what was there ahead of H0 is as it was. -/
def HS (H0 H : Hp) (idv : Nat) (hs : List Hd) : Prop :=
  Pf H0 H ∧ H0.length ≤ idv ∧ ((hs = [] ∧ H[idv]? = some (some ⟨57, [.nils]⟩)) ∨
    ∃ id junk, H0.length ≤ id ∧ VarAt H idv id hs.length ∧ H[id]? = some (some ⟨61, flatH hs ++ junk⟩) ∧ 0 < (flatH hs ++ junk).length)
theorem HS.app {H0 H : Hp} {idv : Nat} {hs : List Hd} (h : HS H0 H idv hs) (E : Hp) : HS H0 (H ++ E) idv hs := by
  obtain ⟨h1, h2, h3⟩ := h
  refine ⟨h1.app E, h2, ?_⟩
  rcases h3 with ⟨h3, h4⟩ | ⟨id, junk, h3, h4, h5, h6⟩
  · exact .inl ⟨h3, get_app h4 E⟩
  · exact .inr ⟨id, junk, h3, get_app h4 E, get_app h5 E, h6⟩
theorem var_ne {H : Hp} {idv id n : Nat} {cs : List AV} (h : VarAt H idv id n) (h2 : H[id]? = some (some ⟨61, cs⟩)) : id ≠ idv := by
  rintro rfl
  unfold VarAt at h
  rw [h] at h2
  injection h2 with h2; injection h2 with h2; injection h2 with h2 _
  cases h2
theorem HS.sl {H0 H : Hp} {idv : Nat} {hs : List Hd} (h : HS H0 H idv hs) (hne : 0 < hs.length) : ∃ id junk, H0.length ≤ id ∧ VarAt H idv id hs.length ∧ H[id]? = some (some ⟨61, flatH hs ++ junk⟩) ∧ 0 < (flatH hs ++ junk).length := by
  rcases h.2.2 with ⟨h3, _⟩ | h3
  · rw [h3] at hne; exact absurd hne (Nat.lt_irrefl 0)
  · exact h3
/-- The same heads, written anew. -/
theorem HS.put {H0 H : Hp} {idv id : Nat} {hs hs' : List Hd} {junk junk' : List AV} (h1 : Pf H0 H) (h2 : H0.length ≤ idv) (h3 : H0.length ≤ id) (h4 : VarAt H idv id hs.length) (h5 : H[id]? = some (some ⟨61, flatH hs ++ junk⟩)) (hl : hs'.length = hs.length) (h6 : 0 < (flatH hs' ++ junk').length) :
    HS H0 (H.set id (some ⟨61, flatH hs' ++ junk'⟩)) idv hs' := by
  refine ⟨h1.set h3 _, h2, .inr ⟨id, junk', h3, ?_, get_set_same h5 _, h6⟩⟩
  unfold VarAt
  rw [List.getElem?_set_ne (var_ne h4 h5), hl]
  exact h4

theorem less_at {H0 H : Hp} {idv : Nat} {hs : List Hd} (h : HS H0 H idv hs) {i j : Nat} {a b : Hd} (hi : hs[i]? = some a) (hj : hs[j]? = some b) (ha : a.rest ≠ []) (hb : b.rest ≠ []) :
    ∃ id E, methodA Try.prog H 59 (.ptr idv 0) "Less" = some (61, .sl 61 id 0 hs.length) ∧ CallsA Try.prog K0 61 [.sl 61 id 0 hs.length, .int .i64 (i : Int), .int .i64 (j : Int)] H [] (.bool (lessH a b)) (H ++ E) [] := by
  obtain ⟨id, junk, h3, h4, h5, h6⟩ := h.sl (by have := (List.getElem?_eq_some_iff.1 hi).1; omega)
  obtain ⟨x, xs, hx⟩ := List.exists_cons_of_ne_nil ha
  obtain ⟨y, ys, hy⟩ := List.exists_cons_of_ne_nil hb
  obtain ⟨E, hE⟩ := less_spec h5 hi hj hx hy
  exact ⟨id, E, at_less h4, hE⟩
theorem swap_at {H0 H : Hp} {idv : Nat} {hs : List Hd} (h : HS H0 H idv hs) {i j : Nat} {a b : Hd} (hi : hs[i]? = some a) (hj : hs[j]? = some b) :
    ∃ id H', methodA Try.prog H 59 (.ptr idv 0) "Swap" = some (62, .sl 61 id 0 hs.length) ∧ CallsA Try.prog K0 62 [.sl 61 id 0 hs.length, .int .i64 (i : Int), .int .i64 (j : Int)] H [] (.tup []) H' [] ∧ HS H0 H' idv ((hs.set i b).set j a) := by
  obtain ⟨id, junk, h3, h4, h5, h6⟩ := h.sl (by have := (List.getElem?_eq_some_iff.1 hi).1; omega)
  refine ⟨id, _, at_swap h4, swap_spec h5 hi hj, HS.put h.1 h.2.1 h3 h4 h5 (by rw [List.length_set, List.length_set]) ?_⟩
  rw [List.length_append, flatH_len, List.length_set, List.length_set]
  have := (List.getElem?_eq_some_iff.1 hi).1
  omega
theorem len_at {H0 H : Hp} {idv : Nat} {hs : List Hd} (h : HS H0 H idv hs) (hne : 0 < hs.length) : ∃ id, methodA Try.prog H 59 (.ptr idv 0) "Len" = some (60, .sl 61 id 0 hs.length) ∧ CallsA Try.prog K0 60 [.sl 61 id 0 hs.length] H [] (.int .i64 (hs.length : Int)) H [] := by
  obtain ⟨id, junk, h3, h4, h5, h6⟩ := h.sl hne
  exact ⟨id, at_len h4, len_spec id _ H⟩

theorem flatH_snoc (hs : List Hd) (h : Hd) : flatH (hs ++ [h]) = flatH hs ++ h.cells := by rw [flatH_app]; rfl
theorem flatH_take (hs : List Hd) (junk : List AV) : (flatH hs ++ junk).take (hs.length * 2) = flatH hs := List.take_left' (flatH_len hs)
theorem push_at {H0 H : Hp} {idv : Nat} {hs : List Hd} (h : HS H0 H idv hs) (x : Hd) (hlen : hs.length < 1048576) : ∃ H', CallsA Try.prog K0 64 [.ptr idv 0, .iface 61 (.agg [.lst 39 (x.rest.map Row.enc) x.sp, .int .i64 x.list])] H [] (.tup []) H' [] ∧ HS H0 H' idv (hs ++ [x]) := by
  obtain ⟨h1, h2, h3⟩ := h
  rcases h3 with ⟨rfl, hv⟩ | ⟨id, junk, hge, hv, hb, hpos⟩
  · have hidl : idv < H.length := (List.getElem?_eq_some_iff.1 hv).1
    have hnew : ((H ++ [some (Blk.mk 61 x.cells)]) ++ [some (Blk.mk 61 (flatH [x] ++ []))])[(H ++ [some (Blk.mk 61 x.cells)]).length]? = some (some ⟨61, flatH [x] ++ []⟩) := get_last _ _
    refine ⟨(((H ++ [some (Blk.mk 61 x.cells)]) ++ [some (Blk.mk 61 (flatH [x] ++ []))]).set idv (some (Blk.mk 57 [.sl 61 (H ++ [some (Blk.mk 61 x.cells)]).length 0 1]))), ?_, ?_⟩
    · refine calls_by Try.func64 rfl rfl rfl ?_
      refine And.intro (fun _ => ?_) (fun h => by cases h)
      refine Exists.intro _ (And.intro rfl (Exists.intro _ (And.intro rfl ?_)))
      refine Exists.intro _ (And.intro (get_last _ _) (And.intro rfl (And.intro (Nat.succ_pos _) (And.intro (Nat.le_of_ble_eq_true rfl) (Exists.intro (H ++ [some (Blk.mk 61 x.cells)]) (And.intro (set_last _ _ _) (Exists.intro [] (And.intro (nil_cells _) ?_))))))))
      refine Exists.intro _ (And.intro rfl ?_)
      refine Exists.intro _ (And.intro (get_app hv _) (Or.inr (And.intro List.not_mem_nil ?_)))
      refine Exists.intro _ (And.intro (get_last _ _) ?_)
      refine Exists.intro _ (And.intro rfl ?_)
      refine And.intro rfl (And.intro (Nat.succ_pos _) (And.intro (Nat.le_of_ble_eq_true rfl) (And.intro (Nat.le_of_ble_eq_true rfl) (And.intro (Nat.le_of_ble_eq_true rfl) (And.intro rfl (Exists.intro _ (And.intro rfl (Exists.intro ((H ++ [some (Blk.mk 61 x.cells)]) ++ [some (Blk.mk 61 (flatH [x] ++ []))]) (And.intro rfl ?_)))))))))
      refine Exists.intro _ (And.intro (get_app (get_app hv _) _) (And.intro rfl (And.intro (Nat.succ_pos _) (And.intro (Nat.le_of_ble_eq_true rfl) (Exists.intro _ (And.intro rfl (Exists.intro [] (And.intro (nil_cells _) ?_))))))))
      exact And.intro rfl (And.intro rfl rfl)
    · refine ⟨((h1.app _).app _).set h2 _, h2, .inr ⟨(H ++ [some (Blk.mk 61 x.cells)]).length, [], ?_, ?_, ?_, ?_⟩⟩
      · have := h1.len; rw [List.length_append]; omega
      · exact get_set_same (get_app (get_app hv _) _) _
      · rw [List.getElem?_set_ne (by rw [List.length_append]; omega)]; exact hnew
      · rw [List.length_append, flatH_len]; simp
  · have hidl : idv < H.length := (List.getElem?_eq_some_iff.1 hv).1
    have hne : id ≠ idv := var_ne hv hb
    have hll : hs.length * 2 ≤ (flatH hs ++ junk).length := by rw [List.length_append, flatH_len]; omega
    have hset : ((H ++ [some (Blk.mk 61 x.cells)]).set id (some (Blk.mk 61 []))).length = (H ++ [some (Blk.mk 61 x.cells)]).length := List.length_set
    have hv2 : (((H ++ [some (Blk.mk 61 x.cells)]).set id (some (Blk.mk 61 []))) ++ [some (Blk.mk 61 (flatH (hs ++ [x]) ++ []))])[idv]? = some (some ⟨57, [.sl 61 id 0 hs.length]⟩) := by
      refine get_app ?_ _
      rw [List.getElem?_set_ne hne]
      exact get_app hv _
    refine ⟨(((H ++ [some (Blk.mk 61 x.cells)]).set id (some (Blk.mk 61 []))) ++ [some (Blk.mk 61 (flatH (hs ++ [x]) ++ []))]).set idv (some (Blk.mk 57 [.sl 61 (H ++ [some (Blk.mk 61 x.cells)]).length 0 (hs ++ [x]).length])), ?_, ?_⟩
    · refine calls_by Try.func64 rfl rfl rfl ?_
      refine And.intro (fun _ => ?_) (fun h => by cases h)
      refine Exists.intro _ (And.intro rfl (Exists.intro _ (And.intro rfl ?_)))
      refine Exists.intro _ (And.intro (get_last _ _) (And.intro rfl (And.intro (Nat.succ_pos _) (And.intro (Nat.le_of_ble_eq_true rfl) (Exists.intro (H ++ [some (Blk.mk 61 x.cells)]) (And.intro (set_last _ _ _) (Exists.intro [] (And.intro (nil_cells _) ?_))))))))
      refine Exists.intro _ (And.intro rfl ?_)
      refine Exists.intro _ (And.intro (get_app hv _) (Or.inr (And.intro List.not_mem_nil ?_)))
      refine Exists.intro _ (And.intro (get_last _ _) ?_)
      refine Exists.intro _ (And.intro rfl ?_)
      refine Exists.intro _ (And.intro (get_app hb _) (And.intro rfl (And.intro rfl (And.intro rfl (And.intro rfl (And.intro hpos (And.intro (?_ : hs.length * 2 ≤ (flatH hs ++ junk).length) (And.intro (?_ : (hs.length + 1) * 32 ≤ 140737488355328) (And.intro (?_ : hs.length + 1 ≤ 140737488355328) (And.intro (Nat.le_of_ble_eq_true rfl) (And.intro rfl (Exists.intro _ (And.intro rfl (Exists.intro (((H ++ [some (Blk.mk 61 x.cells)]).set id (some (Blk.mk 61 []))) ++ [some (Blk.mk 61 (flatH (hs ++ [x]) ++ []))]) (And.intro (?_ : (((H ++ [some (Blk.mk 61 x.cells)]).set id (some (Blk.mk 61 []))) ++ [some (Blk.mk 61 ((flatH hs ++ junk).take (hs.length * 2) ++ x.cells))] : Hp) = _) (Exists.intro (hs ++ [x]).length (And.intro (?_ : hs.length + 1 = _) ?_)))))))))))))))))
      · exact hll
      · omega
      · omega
      · rw [flatH_take, flatH_snoc, List.append_nil]
      · rw [List.length_append]; rfl
      refine Exists.intro _ (And.intro hv2 (And.intro rfl (And.intro (Nat.succ_pos _) (And.intro (Nat.le_of_ble_eq_true rfl) (Exists.intro _ (And.intro rfl (Exists.intro [] (And.intro (nil_cells _) ?_))))))))
      exact And.intro rfl (And.intro rfl rfl)
    · refine ⟨(((h1.app _).set hge _).app _).set h2 _, h2, .inr ⟨(H ++ [some (Blk.mk 61 x.cells)]).length, [], ?_, ?_, ?_, ?_⟩⟩
      · have := h1.len; rw [List.length_append]; omega
      · exact get_set_same hv2 _
      · rw [List.getElem?_set_ne (by rw [List.length_append]; omega), ← hset]; exact get_last _ _
      · rw [List.length_append, flatH_len, List.length_append]; simp
theorem pop_at {H0 H : Hp} {idv : Nat} {hs : List Hd} {x : Hd} (h : HS H0 H idv (hs ++ [x])) (hlen : hs.length < 1048576) : ∃ H', CallsA Try.prog K0 63 [.ptr idv 0] H [] (.iface 61 (.agg [.lst 39 (x.rest.map Row.enc) x.sp, .int .i64 x.list])) H' [] ∧ HS H0 H' idv hs := by
  obtain ⟨id, junk, hge, hv, hb, hpos⟩ := h.sl (by simp)
  obtain ⟨h1, h2, _⟩ := h
  have hx : (hs ++ [x])[hs.length]? = some x := get_last _ _
  obtain ⟨x1, x2⟩ := flatH_at (hs ++ [x]) junk hx
  have hne : id ≠ idv := var_ne hv hb
  have hl : (hs ++ [x]).length = hs.length + 1 := by simp
  unfold VarAt at hv
  rw [hl] at hv
  have hcut : sliceA Try.prog 57 (.sl 61 id 0 (hs.length + 1)) none (some (.int .i64 (hs.length : Int))) (some (.int .i64 (hs.length : Int))) = some (.sl 61 id 0 hs.length) := by
    have hu : Try.prog.underlying 57 = some (.slice 61) := Try.underlying57
    have hs2 : sizeT Try.prog 61 = some 2 := rfl
    unfold sliceA
    rw [hu]
    have b1 : boundA (some (.int .i64 (hs.length : Int))) (hs.length + 1) (hs.length + 1) = some hs.length := by
      unfold boundA; simp only; rw [if_pos (by omega)]; simp
    have b2 : boundA (some (.int .i64 (hs.length : Int))) (hs.length + 1) hs.length = some hs.length := by
      unfold boundA; simp only; rw [if_pos (by omega)]; simp
    have b3 : boundA none 0 hs.length = some 0 := rfl
    simp only [Option.isSome_some, Bool.not_true, Bool.and_false, Bool.false_eq_true, if_false, b1, b2, b3, hs2]
    simp
  refine ⟨(H ++ [some (Blk.mk 61 x.cells)]).set idv (some (Blk.mk 57 [.sl 61 id 0 hs.length])), ?_, ?_⟩
  · refine calls_by Try.func63 rfl rfl rfl ?_
    refine Exists.intro _ (And.intro hv ?_)
    refine Exists.intro (.int .i64 (hs.length : Int)) (And.intro (i64_eq (by omega) (by omega) (by omega)) ?_)
    refine Exists.intro _ (And.intro hv ?_)
    refine Exists.intro _ (And.intro (idx_hd (Nat.lt_succ_self _)) ?_)
    refine Exists.intro _ (And.intro hb (wRd_hd x1 x2 ?_))
    refine Exists.intro _ (And.intro rfl (Exists.intro _ (And.intro rfl ?_)))
    refine Exists.intro _ (And.intro (get_last _ _) (And.intro rfl (And.intro (Nat.succ_pos _) (And.intro (Nat.le_of_ble_eq_true rfl) (Exists.intro (H ++ [some (Blk.mk 61 x.cells)]) (And.intro (set_last _ _ _) (Exists.intro [] (And.intro (nil_cells _) ?_))))))))
    refine Exists.intro _ (And.intro (get_app hv _) ?_)
    refine Exists.intro _ (And.intro hcut ?_)
    refine Exists.intro _ (And.intro (get_app hv _) (And.intro rfl (And.intro (Nat.succ_pos _) (And.intro (Nat.le_of_ble_eq_true rfl) (Exists.intro ((H ++ [some (Blk.mk 61 x.cells)]).set idv (some (Blk.mk 57 [.sl 61 id 0 hs.length]))) (And.intro rfl (Exists.intro [] (And.intro (nil_cells _) ?_))))))))
    have hlt : idv ≠ H.length := by have := (List.getElem?_eq_some_iff.1 hv).1; omega
    refine Exists.intro _ (And.intro (?_ : ((H ++ [some (Blk.mk 61 x.cells)]).set idv (some (Blk.mk 57 [.sl 61 id 0 hs.length])))[H.length]? = some (some (Blk.mk 61 x.cells))) ?_)
    · rw [List.getElem?_set_ne hlt]; exact get_last _ _
    exact And.intro rfl (And.intro rfl rfl)
  · refine ⟨(h1.app _).set h2 _, h2, .inr ⟨id, x.cells ++ junk, hge, get_set_same (get_app hv _) _, ?_, ?_⟩⟩
    · rw [List.getElem?_set_ne hne.symm, ← List.append_assoc, ← flatH_snoc]
      exact get_app hb _
    · rw [← List.append_assoc, ← flatH_snoc]; exact hpos
end Go.Proofs.Ytnajopkaepjncaa

/- Heaps, plainly. -/
namespace Go.Proofs.Ytnajopkaepjncaa
open Am
set_option linter.unusedVariables false
set_option linter.unusedSimpArgs false

theorem less_total : ∀ (a b : List UInt8), Op.bytesLess a b = false → Op.bytesLess b a = false → a = b
  | [], [], _, _ => rfl
  | [], _ :: _, h, _ => by simp [Op.bytesLess] at h
  | _ :: _, [], _, h => by simp [Op.bytesLess] at h
  | x :: a, y :: b, h, k => by
    unfold Op.bytesLess at h k
    simp only [Bool.or_eq_false_iff, decide_eq_false_iff_not, Bool.and_eq_false_iff, beq_eq_false_iff_ne] at h k
    have hxy : x = y := by
      have h1 := UInt8.not_lt.1 h.1
      have h2 := UInt8.not_lt.1 k.1
      exact UInt8.le_antisymm h2 h1
    subst hxy
    have h3 : Op.bytesLess a b = false := by rcases h.2 with h | h; exact absurd rfl h; exact h
    have h4 : Op.bytesLess b a = false := by rcases k.2 with h | h; exact absurd rfl h; exact h
    rw [less_total a b h3 h4]
theorem less_asymm {a b : List UInt8} (h : Op.bytesLess a b = true) : Op.bytesLess b a = false := by
  cases hb : Op.bytesLess b a with
  | false => rfl
  | true =>
    have := less_trans h hb
    rw [less_irrefl] at this; cases this
/-- The order of heads: by key, then by number from great to small, then by list. -/
theorem lessR_iff (a b : Row) (i j : Int) : lessR a b i j = true ↔ (Op.bytesLess a.key b.key = true ∨ (a.key = b.key ∧ (b.seq < a.seq ∨ (a.seq = b.seq ∧ i < j)))) := by
  unfold lessR
  by_cases hk : a.key = b.key
  · have e : (a.key != b.key) = false := by rw [hk]; simp
    rw [e]
    simp only
    by_cases hs : a.seq = b.seq
    · have e2 : (a.seq != b.seq) = false := by rw [hs]; simp
      rw [e2]
      simp only [decide_eq_true_eq, hk, less_irrefl, hs]
      constructor
      · intro h; exact .inr ⟨trivial, .inr ⟨trivial, h⟩⟩
      · rintro (h | ⟨_, h | ⟨_, h⟩⟩)
        · cases h
        · omega
        · exact h
    · have e2 : (a.seq != b.seq) = true := by simp [hs]
      rw [e2]
      simp only [decide_eq_true_eq, hk, less_irrefl]
      constructor
      · intro h; exact .inr ⟨trivial, .inl h⟩
      · rintro (h | ⟨_, h | ⟨h, _⟩⟩)
        · cases h
        · exact h
        · exact absurd h hs
  · have e : (a.key != b.key) = true := by simp [hk]
    rw [e]
    simp only [hk, false_and, or_false]
theorem lessR_irrefl (a : Row) (i : Int) : lessR a a i i = false := by
  cases h : lessR a a i i with
  | false => rfl
  | true =>
    rw [lessR_iff, less_irrefl] at h
    rcases h with h | ⟨_, h | ⟨_, h⟩⟩
    · cases h
    · omega
    · omega
theorem lessR_trans {a b c : Row} {i j k : Int} (h1 : lessR a b i j = true) (h2 : lessR b c j k = true) : lessR a c i k = true := by
  rw [lessR_iff] at h1 h2 ⊢
  rcases h1 with h1 | ⟨h1, h3⟩
  · rcases h2 with h2 | ⟨h2, _⟩
    · exact .inl (less_trans h1 h2)
    · exact .inl (by rw [← h2]; exact h1)
  · rcases h2 with h2 | ⟨h2, h4⟩
    · exact .inl (by rw [h1]; exact h2)
    · refine .inr ⟨h1.trans h2, ?_⟩
      rcases h3 with h3 | ⟨h3, h5⟩ <;> rcases h4 with h4 | ⟨h4, h6⟩
      · exact .inl (by omega)
      · exact .inl (by omega)
      · exact .inl (by omega)
      · exact .inr ⟨by omega, by omega⟩
theorem lessR_total (a b : Row) (i j : Int) : lessR a b i j = true ∨ lessR b a j i = true ∨ (a.key = b.key ∧ a.seq = b.seq ∧ i = j) := by
  rw [lessR_iff, lessR_iff]
  cases h1 : Op.bytesLess a.key b.key with
  | true => exact .inl (.inl rfl)
  | false =>
    cases h2 : Op.bytesLess b.key a.key with
    | true => exact .inr (.inl (.inl rfl))
    | false =>
      have hk := less_total _ _ h1 h2
      rcases Int.lt_trichotomy a.seq b.seq with h | h | h
      · exact .inr (.inl (.inr ⟨hk.symm, .inl h⟩))
      · rcases Int.lt_trichotomy i j with h3 | h3 | h3
        · exact .inl (.inr ⟨hk, .inr ⟨h, h3⟩⟩)
        · exact .inr (.inr ⟨hk, h, h3⟩)
        · exact .inr (.inl (.inr ⟨hk.symm, .inr ⟨h.symm, h3⟩⟩))
      · exact .inl (.inr ⟨hk, .inl h⟩)
/-- No head stands ahead of another: the other one, or none. -/
def leH (a b : Hd) : Prop := lessH b a = false
def full (h : Hd) : Prop := h.rest ≠ []
theorem leH_trans {a b c : Hd} (ha : full a) (hb : full b) (hc : full c) (h1 : leH a b) (h2 : leH b c) : leH a c := by
  obtain ⟨x, xs, hx⟩ := List.exists_cons_of_ne_nil ha
  obtain ⟨y, ys, hy⟩ := List.exists_cons_of_ne_nil hb
  obtain ⟨z, zs, hz⟩ := List.exists_cons_of_ne_nil hc
  unfold leH lessH at *
  rw [hx, hy] at h1
  rw [hy, hz] at h2
  rw [hx, hz]
  simp only at h1 h2 ⊢
  cases h : lessR z x c.list a.list with
  | false => rfl
  | true =>
    exfalso
    rcases lessR_total y x b.list a.list with h3 | h3 | ⟨h3, h4, h5⟩
    · rw [h3] at h1; cases h1
    · have := lessR_trans h h3
      rw [this] at h2; cases h2
    · have : lessR z y c.list b.list = true := by
        rw [lessR_iff] at h ⊢
        rw [h3, h4, h5]; exact h
      rw [this] at h2; cases h2
theorem leH_of_less {a b : Hd} (h : lessH a b = true) : leH a b := by
  unfold leH
  unfold lessH at *
  cases ha : a.rest with
  | nil => rw [ha] at h; simp at h
  | cons x xs =>
    cases hb : b.rest with
    | nil => rfl
    | cons y ys =>
      rw [ha, hb] at h
      simp only at h ⊢
      cases h2 : lessR y x b.list a.list with
      | false => rfl
      | true =>
        have := lessR_trans h h2
        rw [lessR_irrefl] at this; cases this
def par (k : Nat) : Nat := (k - 1) / 2
/-- Heap's order among the first n, whatever stands at these places. -/
def HeapN (hs : List Hd) (n : Nat) : Prop := ∀ (k : Nat) (a b : Hd), 0 < k → k < n → hs[par k]? = some a → hs[k]? = some b → leH a b
def UpOk (hs : List Hd) (j : Nat) : Prop := (∀ (k : Nat) (a b : Hd), 0 < k → k < hs.length → k ≠ j → hs[par k]? = some a → hs[k]? = some b → leH a b) ∧
  (∀ (k : Nat) (a b : Hd), 0 < k → k < hs.length → par k = j → 0 < j → hs[par j]? = some a → hs[k]? = some b → leH a b)
def DownOk (hs : List Hd) (n i : Nat) : Prop := (∀ (k : Nat) (a b : Hd), 0 < k → k < n → par k ≠ i → hs[par k]? = some a → hs[k]? = some b → leH a b) ∧
  (∀ (k : Nat) (a b : Hd), 0 < k → k < n → par k = i → 0 < i → hs[par i]? = some a → hs[k]? = some b → leH a b)
def swp (hs : List Hd) (i j : Nat) (a b : Hd) : List Hd := (hs.set i b).set j a
theorem swp_len (hs : List Hd) (i j : Nat) (a b : Hd) : (swp hs i j a b).length = hs.length := by unfold swp; rw [List.length_set, List.length_set]
theorem swp_get {hs : List Hd} {i j : Nat} {a b : Hd} (hi : hs[i]? = some a) (hj : hs[j]? = some b) (k : Nat) : (swp hs i j a b)[k]? = if k = j then some a else if k = i then some b else hs[k]? := by
  have h1 : i < hs.length := (List.getElem?_eq_some_iff.1 hi).1
  have h2 : j < hs.length := (List.getElem?_eq_some_iff.1 hj).1
  unfold swp
  by_cases hk : k = j
  · subst hk
    rw [if_pos rfl, List.getElem?_set_self (by rw [List.length_set]; exact h2)]
  · rw [if_neg hk, List.getElem?_set_ne (fun e => hk e.symm)]
    by_cases hk2 : k = i
    · subst hk2
      rw [if_pos rfl, List.getElem?_set_self h1]
    · rw [if_neg hk2, List.getElem?_set_ne (fun e => hk2 e.symm)]
theorem swp_perm {hs : List Hd} {i j : Nat} {a b : Hd} (hi : hs[i]? = some a) (hj : hs[j]? = some b) : (swp hs i j a b).Perm hs := by
  have h1 : i < hs.length := (List.getElem?_eq_some_iff.1 hi).1
  have h2 : j < hs.length := (List.getElem?_eq_some_iff.1 hj).1
  rw [List.getElem?_eq_getElem h1] at hi
  rw [List.getElem?_eq_getElem h2] at hj
  injection hi with hi
  injection hj with hj
  subst hi; subst hj
  unfold swp
  exact List.set_set_perm h1 h2
theorem up_done {hs : List Hd} (h : UpOk hs 0) : HeapN hs hs.length := fun k a b h1 h2 h3 h4 => h.1 k a b h1 h2 (by omega) h3 h4
theorem up_stop {hs : List Hd} {j : Nat} {a b : Hd} (h : UpOk hs j) (ha : hs[par j]? = some a) (hb : hs[j]? = some b) (hn : lessH b a = false) : HeapN hs hs.length := by
  intro k c d h1 h2 h3 h4
  by_cases hk : k = j
  · subst hk
    rw [ha] at h3; injection h3 with h3
    rw [hb] at h4; injection h4 with h4
    rw [← h3, ← h4]; exact hn
  · exact h.1 k c d h1 h2 hk h3 h4
theorem up_step {hs : List Hd} (hf : ∀ h ∈ hs, full h) {j : Nat} {a b : Hd} (h : UpOk hs j) (hj0 : 0 < j) (ha : hs[par j]? = some a) (hb : hs[j]? = some b) (hl : lessH b a = true) : UpOk (swp hs (par j) j a b) (par j) := by
  have hjl : j < hs.length := (List.getElem?_eq_some_iff.1 hb).1
  have hpj : par j < j := by unfold par; omega
  have hg := fun k => swp_get ha hb k
  have fl : ∀ (k : Nat) (c : Hd), hs[k]? = some c → full c := fun k c hc => hf c (List.mem_of_getElem? hc)
  constructor
  · intro k c d h1 h2 h3 h4 h5
    rw [swp_len] at h2
    rw [hg] at h4 h5
    by_cases hk : k = j
    · subst hk
      rw [if_pos rfl] at h5
      rw [if_neg (by omega), if_pos rfl] at h4
      injection h4 with h4; injection h5 with h5
      rw [← h4, ← h5]; exact leH_of_less hl
    · rw [if_neg hk, if_neg h3] at h5
      by_cases hpk : par k = j
      · rw [if_pos hpk] at h4
        injection h4 with h4
        rw [← h4]
        exact h.2 k a d h1 h2 hpk hj0 ha h5
      · rw [if_neg hpk] at h4
        by_cases hpi : par k = par j
        · rw [if_pos hpi] at h4
          injection h4 with h4
          rw [← h4]
          have := h.1 k a d h1 h2 hk (by rw [hpi]; exact ha) h5
          exact leH_trans (fl _ _ hb) (fl _ _ ha) (fl _ _ h5) (leH_of_less hl) this
        · rw [if_neg hpi] at h4
          exact h.1 k c d h1 h2 hk h4 h5
  · intro k c d h1 h2 h3 h4 h5 h6
    rw [swp_len] at h2
    rw [hg] at h5 h6
    have hpp : par (par j) < par j := by unfold par at *; omega
    rw [if_neg (by omega), if_neg (by omega)] at h5
    have hpar := h.1 (par j) c a h4 (by omega) (by omega) h5 ha
    by_cases hk : k = j
    · rw [if_pos hk] at h6
      injection h6 with h6
      rw [← h6]; exact hpar
    · have hki : k ≠ par j := by intro e; rw [e] at h3; omega
      rw [if_neg hk, if_neg hki] at h6
      have := h.1 k a d h1 h2 hk (by rw [h3]; exact ha) h6
      exact leH_trans (fl _ _ h5) (fl _ _ ha) (fl _ _ h6) hpar this
theorem down_leaf {hs : List Hd} {n i : Nat} (h : DownOk hs n i) (hn : n ≤ 2 * i + 1) : HeapN hs n := by
  intro k a b h1 h2 h3 h4
  exact h.1 k a b h1 h2 (by unfold par; omega) h3 h4
theorem kid {k i : Nat} (h1 : 0 < k) (h : par k = i) : k = 2 * i + 1 ∨ k = 2 * i + 2 := by unfold par at h; omega
theorem down_stop {hs : List Hd} {n i j : Nat} {a b : Hd} (hf : ∀ (k : Nat) (h : Hd), k < n → hs[k]? = some h → full h) (hin : i < n) (hjn : j < n) (h : DownOk hs n i) (ha : hs[i]? = some a) (hb : hs[j]? = some b) (hn : lessH b a = false) (hmin : ∀ (k : Nat) (c : Hd), 0 < k → k < n → par k = i → hs[k]? = some c → leH b c) : HeapN hs n := by
  intro k c d h1 h2 h3 h4
  by_cases hp : par k = i
  · rw [hp, ha] at h3
    injection h3 with h3
    rw [← h3]
    exact leH_trans (hf i a hin ha) (hf j b hjn hb) (hf k d h2 h4) hn (hmin k d h1 h2 hp h4)
  · exact h.1 k c d h1 h2 hp h3 h4
theorem down_step {hs : List Hd} {n i j : Nat} {a b : Hd} (hf : ∀ (k : Nat) (h : Hd), k < n → hs[k]? = some h → full h) (h : DownOk hs n i) (hj0 : 0 < j) (hjn : j < n) (hp : par j = i) (ha : hs[i]? = some a) (hb : hs[j]? = some b) (hl : lessH b a = true) (hmin : ∀ (k : Nat) (c : Hd), 0 < k → k < n → par k = i → hs[k]? = some c → leH b c) : DownOk (swp hs i j a b) n j := by
  have hij : i < j := by unfold par at hp; omega
  have hg := fun k => swp_get ha hb k
  constructor
  · intro k c d h1 h2 h3 h4 h5
    rw [hg] at h4 h5
    rw [if_neg h3] at h4
    by_cases hk : k = j
    · subst hk
      rw [if_pos rfl] at h5
      rw [if_pos hp] at h4
      injection h4 with h4; injection h5 with h5
      rw [← h4, ← h5]; exact leH_of_less hl
    · rw [if_neg hk] at h5
      by_cases hpi : par k = i
      · rw [if_pos hpi] at h4
        injection h4 with h4
        rw [← h4]
        have hki : k ≠ i := by unfold par at hpi; omega
        rw [if_neg hki] at h5
        exact hmin k d h1 h2 hpi h5
      · rw [if_neg hpi] at h4
        by_cases hki : k = i
        · rw [if_pos hki] at h5
          injection h5 with h5
          rw [← h5]
          rw [hki] at h4
          exact h.2 j c b hj0 hjn hp (by omega) h4 hb
        · rw [if_neg hki] at h5
          exact h.1 k c d h1 h2 hpi h4 h5
  · intro k c d h1 h2 h3 h4 h5 h6
    rw [hg] at h5 h6
    have hkj : j < k := by unfold par at h3; omega
    rw [if_neg (by omega), if_neg (by omega)] at h6
    rw [hp, if_neg (by omega), if_pos rfl] at h5
    injection h5 with h5
    rw [← h5]
    exact h.1 k b d h1 h2 (by omega) (by rw [h3]; exact hb) h6
/-- The first of a heap is least. -/
theorem heap_least {hs : List Hd} {n : Nat} (hf : ∀ (k : Nat) (h : Hd), k < n → hs[k]? = some h → full h) (h : HeapN hs n) {a : Hd} (ha : hs[0]? = some a) (hn : n ≤ hs.length) : ∀ (k : Nat) (b : Hd), 0 < k → k < n → hs[k]? = some b → leH a b := by
  intro k
  induction k using Nat.strongRecOn with
  | _ k ih =>
    intro b h1 h2 hb
    have hpk : par k < k := by unfold par; omega
    obtain ⟨c, hc⟩ : ∃ c, hs[par k]? = some c := ⟨hs[par k]'(by omega), List.getElem?_eq_getElem _⟩
    have hcb := h k c b h1 h2 hc hb
    by_cases h0 : par k = 0
    · rw [h0, ha] at hc
      injection hc with hc
      rw [hc]; exact hcb
    · have := ih (par k) hpk c (by omega) (by omega) hc
      exact leH_trans (hf 0 a (by omega) ha) (hf _ c (by omega) hc) (hf _ b h2 hb) this hcb
end Go.Proofs.Ytnajopkaepjncaa

/- Heaps: up and down. -/
namespace Go.Proofs.Ytnajopkaepjncaa
open Am
set_option linter.unusedVariables false
set_option linter.unusedSimpArgs false
set_option maxRecDepth 8000

abbrev ifc (idv : Nat) : AV := .iface 59 (.ptr idv 0)
theorem quo_par {j : Nat} (h : 0 < j) (x y : Operand) : binOpA Try.prog .quo 3 x y (.int .i64 ((j - 1 : Nat) : Int)) (.int .i64 2) = some (.int .i64 (par j : Int)) ∨ ¬ j < 4611686018427387904 := by
  by_cases hj : j < 4611686018427387904
  · left
    show (if (2 : Int) = 0 then none else some (AV.int .i64 (IntKind.i64.wrap (((j - 1 : Nat) : Int).tdiv 2)))) = _
    rw [if_neg (by decide)]
    have : ((j - 1 : Nat) : Int).tdiv 2 = ((par j : Nat) : Int) := by
      unfold par
      rw [Int.tdiv_eq_ediv_of_nonneg (Int.natCast_nonneg _)]
      omega
    rw [this]
    have hp : par j < 4611686018427387904 := by unfold par; omega
    rw [wrap_i64 (by omega) (by omega)]
  · right; exact hj
theorem quo_zero (x y : Operand) : binOpA Try.prog .quo 3 x y (.int .i64 (-1)) (.int .i64 2) = some (.int .i64 ((0 : Nat) : Int)) := by
  show (if (2 : Int) = 0 then none else some (AV.int .i64 (IntKind.i64.wrap ((-1 : Int).tdiv 2)))) = _
  rw [if_neg (by decide)]
  have : (-1 : Int).tdiv 2 = 0 := by decide
  rw [this, wrap_i64 (by omega) (by omega)]
  rfl

noncomputable abbrev c40 : Code := at_ Try.f40 [false, false]
theorem up_loop (H0 : Hp) (idv : Nat) : ∀ (j : Nat) (hs : List Hd) (H : Hp), j < hs.length → hs.length < 1048576 → HS H0 H idv hs → (∀ h ∈ hs, full h) → UpOk hs j →
    L Try.prog K0 (K0.vars 40) 23 c40 [(0, ifc idv), (1, .int .i64 (j : Int))] H [] []
      fun e env H' sl cl => sl = [] ∧ cl = [] ∧ e = .exit 0 ∧ ∃ hs', HS H0 H' idv hs' ∧ hs'.Perm hs ∧ HeapN hs' hs'.length := by
  intro j
  induction j using Nat.strongRecOn with
  | _ j ih =>
    intro hs H hj hlen h hf hu
    refine L_round ?_
    by_cases hj0 : j = 0
    · subst hj0
      refine Exists.intro (.int .i64 (-1)) (And.intro rfl ?_)
      refine Exists.intro _ (And.intro (quo_zero _ _) ?_)
      refine And.intro (fun _ => ?_) (fun h => by cases h)
      refine And.intro (fun _ => ?_) (fun h => by cases h)
      exact And.intro rfl (And.intro rfl (And.intro rfl ⟨hs, h, List.Perm.refl _, up_done hu⟩))
    · have hp : par j < j := by unfold par; omega
      obtain ⟨b, hb⟩ : ∃ b, hs[j]? = some b := ⟨hs[j], List.getElem?_eq_getElem hj⟩
      obtain ⟨a, ha⟩ : ∃ a, hs[par j]? = some a := ⟨hs[par j], List.getElem?_eq_getElem (by omega)⟩
      have hq := fun x y => (quo_par (j := j) (by omega) x y).resolve_right (by omega)
      refine Exists.intro (.int .i64 ((j - 1 : Nat) : Int)) (And.intro (i64_eq (by omega) (by omega) (by omega)) ?_)
      refine Exists.intro _ (And.intro (hq _ _) ?_)
      refine And.intro (fun h1 => ?_) (fun h1 => ?_)
      · exfalso
        replace h1 : ((par j : Int) == (j : Int)) = true := h1
        rw [beq_iff_eq] at h1; omega
      obtain ⟨id, E, hm, hE⟩ := less_at h hb ha (hf b (List.mem_of_getElem? hb)) (hf a (List.mem_of_getElem? ha))
      have h2 := h.app E
      refine Exists.intro _ (Exists.intro _ (And.intro hm (And.intro rfl (Exists.intro _ (Exists.intro _ (Exists.intro _ (And.intro hE ?_)))))))
      cases hl : lessH b a with
      | false =>
        refine And.intro (fun _ => ?_) (fun h => by cases h)
        exact And.intro rfl (And.intro rfl (And.intro rfl ⟨hs, h2, List.Perm.refl _, up_stop hu ha hb hl⟩))
      | true =>
        refine And.intro (fun h => by cases h) (fun _ => ?_)
        obtain ⟨id2, H3, hm2, hS, h3⟩ := swap_at h2 ha hb
        refine Exists.intro _ (Exists.intro _ (And.intro hm2 (And.intro rfl (Exists.intro _ (Exists.intro _ (Exists.intro _ (And.intro hS ?_)))))))
        have hperm := swp_perm ha hb
        refine L_mono (ih (par j) hp (swp hs (par j) j a b) H3 (by rw [swp_len]; omega) (by rw [swp_len]; exact hlen) h3 (fun x hx => hf x (hperm.mem_iff.1 hx)) (up_step hf hu (by omega) ha hb hl)) ?_
        rintro e env H' sl cl ⟨rfl, rfl, rfl, hs', g1, g2, g3⟩
        exact ⟨rfl, rfl, rfl, hs', g1, g2.trans hperm, g3⟩
/-- up: the heads are a heap behind it. -/
theorem up_at {H0 H : Hp} {idv : Nat} {hs : List Hd} {j : Nat} (hj : j < hs.length) (hlen : hs.length < 1048576) (h : HS H0 H idv hs) (hf : ∀ h ∈ hs, full h) (hu : UpOk hs j) :
    ∃ H' hs', CallsA Try.prog K0 40 [ifc idv, .int .i64 (j : Int)] H [] (.tup []) H' [] ∧ HS H0 H' idv hs' ∧ hs'.Perm hs ∧ HeapN hs' hs'.length := by
  have key : ∃ x H' cells', (x = .tup [] ∧ cells' = [] ∧ ∃ hs', HS H0 H' idv hs' ∧ hs'.Perm hs ∧ HeapN hs' hs'.length) ∧ CallsA Try.prog K0 40 [ifc idv, .int .i64 (j : Int)] H [] x H' cells' := by
    refine calls_post Try.func40 rfl rfl (R := fun x H' cells' => x = .tup [] ∧ cells' = [] ∧ ∃ hs', HS H0 H' idv hs' ∧ hs'.Perm hs ∧ HeapN hs' hs'.length) rfl ?_
    refine L_mono (up_loop H0 idv j hs H hj hlen h hf hu) ?_
    rintro e env H' sl cl ⟨rfl, rfl, rfl, g⟩
    exact Exists.intro _ (And.intro rfl (And.intro rfl (And.intro rfl g)))
  obtain ⟨x, H', cells', ⟨rfl, rfl, hs', g⟩, hc⟩ := key
  exact ⟨H', hs', hc, g⟩
end Go.Proofs.Ytnajopkaepjncaa

/- Heaps: down; Push, Pop, Fix. -/
namespace Go.Proofs.Ytnajopkaepjncaa
open Am
set_option linter.unusedVariables false
set_option linter.unusedSimpArgs false
set_option maxRecDepth 8000

def DownEnd (H0 : Hp) (idv : Nat) (hs : List Hd) (n : Nat) (H' : Hp) : Prop := ∃ hs', HS H0 H' idv hs' ∧ hs'.Perm hs ∧ HeapN hs' n ∧ ∀ k, n ≤ k → hs'[k]? = hs[k]?
noncomputable abbrev c41 : Code := at_ Try.f41 [true, true, false, false, false]
theorem down_loop (H0 : Hp) (idv : Nat) (n : Nat) (i0 : Int) : ∀ (m i : Nat) (hs : List Hd) (H : Hp), n - i = m → n ≤ hs.length → hs.length < 1048576 → i < 1048576 → HS H0 H idv hs → (∀ (k : Nat) (h : Hd), k < n → hs[k]? = some h → full h) → DownOk hs n i →
    L Try.prog K0 (K0.vars 41) 48 c41 [(0, ifc idv), (1, .int .i64 i0), (2, .int .i64 (n : Int)), (7, .int .i64 (i : Int))] H [] []
      fun e env H' sl cl => sl = [] ∧ cl = [] ∧ e = .exit 0 ∧ DownEnd H0 idv hs n H' ∧ ∃ i' : Int, (∃ v0 v2 v8 v21, env = [(0, v0), (1, .int .i64 i0), (2, v2), (7, .int .i64 i'), (8, v8), (21, v21)]) ∨ ∃ v0 v2 v9 v39, env = [(0, v0), (1, .int .i64 i0), (2, v2), (7, .int .i64 i'), (9, v9), (39, v39)] := by
  intro m
  induction m using Nat.strongRecOn with
  | _ m ih =>
    intro i hs H hm hn hlen hi h hf hd
    refine L_round ?_
    refine Exists.intro (.int .i64 ((2 * i : Nat) : Int)) (And.intro (i64_eq (by omega) (by omega) (by omega)) ?_)
    refine Exists.intro (.int .i64 ((2 * i + 1 : Nat) : Int)) (And.intro (i64_eq (by omega) (by omega) (by omega)) ?_)
    refine And.intro (fun h1 => ?_) (fun h1 => ?_)
    · have h1 := dec_true (p := ((2 * i + 1 : Nat) : Int) ≥ (n : Int)) h1
      refine And.intro (fun _ => ?_) (fun h => by cases h)
      exact And.intro rfl (And.intro rfl (And.intro rfl (And.intro ⟨hs, h, List.Perm.refl _, down_leaf hd (by omega), fun _ _ => rfl⟩ ⟨_, .inl ⟨_, _, _, _, rfl⟩⟩)))
    have h1 := dec_false (p := ((2 * i + 1 : Nat) : Int) ≥ (n : Int)) h1
    have hin : i < n := by omega
    obtain ⟨a, ha⟩ : ∃ a, hs[i]? = some a := ⟨hs[i]'(by omega), List.getElem?_eq_getElem _⟩
    obtain ⟨b, hb⟩ : ∃ b, hs[2 * i + 1]? = some b := ⟨hs[2 * i + 1]'(by omega), List.getElem?_eq_getElem _⟩
    have fa := hf i a hin ha
    have fb := hf _ b (by omega) hb
    refine And.intro (fun h2 => ?_) (fun _ => ?_)
    · exfalso
      have h2 := dec_true (p := ((2 * i + 1 : Nat) : Int) < 0) h2
      omega
    refine Exists.intro (.int .i64 ((2 * i + 1 + 1 : Nat) : Int)) (And.intro (i64_eq (by omega) (by omega) (by omega)) ?_)
    -- behind the choice of the child
    have behind : ∀ (j : Nat) (c : Hd) (H1 : Hp), 0 < j → j < n → par j = i → hs[j]? = some c → (∀ (k : Nat) (d : Hd), 0 < k → k < n → par k = i → hs[k]? = some d → leH c d) → HS H0 H1 idv hs →
        (lessH c a = true → ∃ id E H3, methodA Try.prog H1 59 (.ptr idv 0) "Less" = some (61, .sl 61 id 0 hs.length) ∧ CallsA Try.prog K0 61 [.sl 61 id 0 hs.length, .int .i64 (j : Int), .int .i64 (i : Int)] H1 [] (.bool (lessH c a)) (H1 ++ E) [] ∧
          (∃ id2, methodA Try.prog (H1 ++ E) 59 (.ptr idv 0) "Swap" = some (62, .sl 61 id2 0 hs.length) ∧ CallsA Try.prog K0 62 [.sl 61 id2 0 hs.length, .int .i64 (i : Int), .int .i64 (j : Int)] (H1 ++ E) [] (.tup []) H3 []) ∧
          L Try.prog K0 (K0.vars 41) 48 c41 [(0, ifc idv), (1, .int .i64 i0), (2, .int .i64 (n : Int)), (7, .int .i64 (j : Int))] H3 [] []
            fun e env H' sl cl => sl = [] ∧ cl = [] ∧ e = .exit 0 ∧ DownEnd H0 idv hs n H' ∧ ∃ i' : Int, (∃ v0 v2 v8 v21, env = [(0, v0), (1, .int .i64 i0), (2, v2), (7, .int .i64 i'), (8, v8), (21, v21)]) ∨ ∃ v0 v2 v9 v39, env = [(0, v0), (1, .int .i64 i0), (2, v2), (7, .int .i64 i'), (9, v9), (39, v39)]) ∧
        (lessH c a = false → ∃ id E, methodA Try.prog H1 59 (.ptr idv 0) "Less" = some (61, .sl 61 id 0 hs.length) ∧ CallsA Try.prog K0 61 [.sl 61 id 0 hs.length, .int .i64 (j : Int), .int .i64 (i : Int)] H1 [] (.bool (lessH c a)) (H1 ++ E) [] ∧ DownEnd H0 idv hs n (H1 ++ E)) := by
      intro j c H1 hj0 hjn hp hc hmin g1
      have fc := hf j c hjn hc
      obtain ⟨id, E, hm2, hE⟩ := less_at g1 hc ha fc fa
      have g2 := g1.app E
      refine ⟨fun hl => ?_, fun hl => ?_⟩
      · obtain ⟨id2, H3, hm3, hS, g3⟩ := swap_at g2 ha hc
        refine ⟨id, E, H3, hm2, hE, ⟨id2, hm3, hS⟩, ?_⟩
        have hperm := swp_perm ha hc
        have hij : i < j := by unfold par at hp; omega
        have hget := fun k => swp_get ha hc k
        have hf2 : ∀ (k : Nat) (h : Hd), k < n → (swp hs i j a c)[k]? = some h → full h := by
          intro k x hk hx
          rw [hget] at hx
          by_cases h1 : k = j
          · rw [if_pos h1] at hx; injection hx with hx; rw [← hx]; exact fa
          · rw [if_neg h1] at hx
            by_cases h2 : k = i
            · rw [if_pos h2] at hx; injection hx with hx; rw [← hx]; exact fc
            · rw [if_neg h2] at hx; exact hf k x hk hx
        refine L_mono (ih (n - j) (by omega) j (swp hs i j a c) H3 rfl (by rw [swp_len]; exact hn) (by rw [swp_len]; exact hlen) (by omega) g3 hf2 (down_step hf hd hj0 hjn hp ha hc hl hmin)) ?_
        rintro e env H' sl cl ⟨rfl, rfl, rfl, ⟨hs', e1, e2, e3, e4⟩, e5⟩
        refine ⟨rfl, rfl, rfl, ⟨hs', e1, e2.trans hperm, e3, fun k hk => ?_⟩, e5⟩
        rw [e4 k hk, hget, if_neg (by omega), if_neg (by omega)]
      · exact ⟨id, E, hm2, hE, hs, g2, List.Perm.refl _, down_stop hf hin hjn hd ha hc hl hmin, fun _ _ => rfl⟩
    refine And.intro (fun h2 => ?_) (fun h2 => ?_)
    · have h2 := dec_true (p := ((2 * i + 1 + 1 : Nat) : Int) < (n : Int)) h2
      obtain ⟨c, hc⟩ : ∃ c, hs[2 * i + 1 + 1]? = some c := ⟨hs[2 * i + 1 + 1]'(by omega), List.getElem?_eq_getElem _⟩
      have fc := hf _ c (by omega) hc
      obtain ⟨id, E, hm2, hE⟩ := less_at h hc hb fc fb
      have h3 := h.app E
      refine Exists.intro _ (Exists.intro _ (And.intro hm2 (And.intro rfl (Exists.intro _ (Exists.intro _ (Exists.intro _ (And.intro hE ?_)))))))
      cases hl : lessH c b with
      | true =>
        refine And.intro (fun _ => ?_) (fun h => by cases h)
        obtain ⟨k1, k2⟩ := behind (2 * i + 1 + 1) c (H ++ E) (by omega) (by omega) (by unfold par; omega) hc (by
          intro k d q1 q2 q3 q4
          rcases kid q1 q3 with q | q
          · rw [q, hb] at q4; injection q4 with q4; rw [← q4]; exact leH_of_less hl
          · rw [q] at q4
            have q4 : hs[2 * i + 1 + 1]? = some d := q4
            rw [hc] at q4; injection q4 with q4
            rw [← q4]
            obtain ⟨x, xs, hx⟩ := List.exists_cons_of_ne_nil fc
            unfold leH lessH; rw [hx]; exact lessR_irrefl _ _) h3
        cases hla : lessH c a with
        | true =>
          obtain ⟨id3, E3, H3, w1, w2, ⟨id4, w3, w4⟩, w5⟩ := k1 hla
          rw [hla] at w2
          refine Exists.intro _ (Exists.intro _ (And.intro w1 (And.intro rfl (Exists.intro _ (Exists.intro _ (Exists.intro _ (And.intro w2 ?_)))))))
          refine And.intro (fun h => by cases h) (fun _ => ?_)
          refine Exists.intro _ (Exists.intro _ (And.intro w3 (And.intro rfl (Exists.intro _ (Exists.intro _ (Exists.intro _ (And.intro w4 ?_)))))))
          exact w5
        | false =>
          obtain ⟨id3, E3, w1, w2, w5⟩ := k2 hla
          rw [hla] at w2
          refine Exists.intro _ (Exists.intro _ (And.intro w1 (And.intro rfl (Exists.intro _ (Exists.intro _ (Exists.intro _ (And.intro w2 ?_)))))))
          refine And.intro (fun _ => ?_) (fun h => by cases h)
          exact And.intro rfl (And.intro rfl (And.intro rfl (And.intro w5 ⟨_, .inr ⟨_, _, _, _, rfl⟩⟩)))
      | false =>
        refine And.intro (fun h => by cases h) (fun _ => ?_)
        obtain ⟨k1, k2⟩ := behind (2 * i + 1) b (H ++ E) (by omega) (by omega) (by unfold par; omega) hb (by
          intro k d q1 q2 q3 q4
          rcases kid q1 q3 with q | q
          · rw [q, hb] at q4; injection q4 with q4
            rw [← q4]
            obtain ⟨x, xs, hx⟩ := List.exists_cons_of_ne_nil fb
            unfold leH lessH; rw [hx]; exact lessR_irrefl _ _
          · rw [q] at q4
            have q4 : hs[2 * i + 1 + 1]? = some d := q4
            rw [hc] at q4; injection q4 with q4; rw [← q4]; exact hl) h3
        cases hla : lessH b a with
        | true =>
          obtain ⟨id3, E3, H3, w1, w2, ⟨id4, w3, w4⟩, w5⟩ := k1 hla
          rw [hla] at w2
          refine Exists.intro _ (Exists.intro _ (And.intro w1 (And.intro rfl (Exists.intro _ (Exists.intro _ (Exists.intro _ (And.intro w2 ?_)))))))
          refine And.intro (fun h => by cases h) (fun _ => ?_)
          refine Exists.intro _ (Exists.intro _ (And.intro w3 (And.intro rfl (Exists.intro _ (Exists.intro _ (Exists.intro _ (And.intro w4 ?_)))))))
          exact w5
        | false =>
          obtain ⟨id3, E3, w1, w2, w5⟩ := k2 hla
          rw [hla] at w2
          refine Exists.intro _ (Exists.intro _ (And.intro w1 (And.intro rfl (Exists.intro _ (Exists.intro _ (Exists.intro _ (And.intro w2 ?_)))))))
          refine And.intro (fun _ => ?_) (fun h => by cases h)
          exact And.intro rfl (And.intro rfl (And.intro rfl (And.intro w5 ⟨_, .inr ⟨_, _, _, _, rfl⟩⟩)))
    · have h2 := dec_false (p := ((2 * i + 1 + 1 : Nat) : Int) < (n : Int)) h2
      refine And.intro (fun h => by cases h) (fun _ => ?_)
      obtain ⟨k1, k2⟩ := behind (2 * i + 1) b H (by omega) (by omega) (by unfold par; omega) hb (by
        intro k d q1 q2 q3 q4
        rcases kid q1 q3 with q | q
        · rw [q, hb] at q4; injection q4 with q4
          rw [← q4]
          obtain ⟨x, xs, hx⟩ := List.exists_cons_of_ne_nil fb
          unfold leH lessH; rw [hx]; exact lessR_irrefl _ _
        · omega) h
      cases hla : lessH b a with
      | true =>
        obtain ⟨id3, E3, H3, w1, w2, ⟨id4, w3, w4⟩, w5⟩ := k1 hla
        rw [hla] at w2
        refine Exists.intro _ (Exists.intro _ (And.intro w1 (And.intro rfl (Exists.intro _ (Exists.intro _ (Exists.intro _ (And.intro w2 ?_)))))))
        refine And.intro (fun h => by cases h) (fun _ => ?_)
        refine Exists.intro _ (Exists.intro _ (And.intro w3 (And.intro rfl (Exists.intro _ (Exists.intro _ (Exists.intro _ (And.intro w4 ?_)))))))
        exact w5
      | false =>
        obtain ⟨id3, E3, w1, w2, w5⟩ := k2 hla
        rw [hla] at w2
        refine Exists.intro _ (Exists.intro _ (And.intro w1 (And.intro rfl (Exists.intro _ (Exists.intro _ (Exists.intro _ (And.intro w2 ?_)))))))
        refine And.intro (fun _ => ?_) (fun h => by cases h)
        exact And.intro rfl (And.intro rfl (And.intro rfl (And.intro w5 ⟨_, .inr ⟨_, _, _, _, rfl⟩⟩)))
theorem down_at {H0 H : Hp} {idv : Nat} {hs : List Hd} {n : Nat} (hn : n ≤ hs.length) (hlen : hs.length < 1048576) (h : HS H0 H idv hs) (hf : ∀ (k : Nat) (h : Hd), k < n → hs[k]? = some h → full h) (hd : DownOk hs n 0) :
    ∃ b H', CallsA Try.prog K0 41 [ifc idv, .int .i64 0, .int .i64 (n : Int)] H [] (.bool b) H' [] ∧ DownEnd H0 idv hs n H' := by
  have key : ∃ x H' cells', ((∃ b, x = .bool b) ∧ cells' = [] ∧ DownEnd H0 idv hs n H') ∧ CallsA Try.prog K0 41 [ifc idv, .int .i64 0, .int .i64 (n : Int)] H [] x H' cells' := by
    refine calls_post Try.func41 rfl rfl (R := fun x H' cells' => (∃ b, x = .bool b) ∧ cells' = [] ∧ DownEnd H0 idv hs n H') rfl ?_
    refine L_mono (down_loop H0 idv n 0 (n - 0) 0 hs H rfl hn hlen (by omega) h hf hd) ?_
    rintro e env H' sl cl ⟨rfl, rfl, rfl, g, i', ⟨v0, v2, v8, v21, rfl⟩ | ⟨v0, v2, v9, v39, rfl⟩⟩
    · exact Exists.intro _ (And.intro rfl (And.intro ⟨_, rfl⟩ (And.intro rfl g)))
    · exact Exists.intro _ (And.intro rfl (And.intro ⟨_, rfl⟩ (And.intro rfl g)))
  obtain ⟨x, H', cells', ⟨⟨b, rfl⟩, rfl, g⟩, hc⟩ := key
  exact ⟨b, H', hc, g⟩
end Go.Proofs.Ytnajopkaepjncaa

/- The heap's own functions. -/
namespace Go.Proofs.Ytnajopkaepjncaa
open Am
set_option linter.unusedVariables false
set_option linter.unusedSimpArgs false
set_option maxRecDepth 8000

abbrev Hd.ival (x : Hd) : AV := .iface 61 (.agg [.lst 39 (x.rest.map Row.enc) x.sp, .int .i64 x.list])
theorem up_new {hs : List Hd} (h : HeapN hs hs.length) (x : Hd) : UpOk (hs ++ [x]) hs.length := by
  have hl : (hs ++ [x]).length = hs.length + 1 := by simp
  constructor
  · intro k a b h1 h2 h3 h4 h5
    rw [hl] at h2
    have hk : k < hs.length := by omega
    have hp : par k < hs.length := by unfold par; omega
    rw [List.getElem?_append_left hp] at h4
    rw [List.getElem?_append_left hk] at h5
    exact h k a b h1 hk h4 h5
  · intro k a b h1 h2 h3 h4
    rw [hl] at h2
    unfold par at h3; omega
/-- heap.Push. -/
theorem hpush_at {H0 H : Hp} {idv : Nat} {hs : List Hd} (h : HS H0 H idv hs) (hf : ∀ h ∈ hs, full h) (hh : HeapN hs hs.length) (hlen : hs.length < 1000000) (x : Hd) (hx : full x) :
    ∃ H' hs', CallsA Try.prog K0 31 [ifc idv, x.ival] H [] (.tup []) H' [] ∧ HS H0 H' idv hs' ∧ hs'.Perm (hs ++ [x]) ∧ HeapN hs' hs'.length := by
  obtain ⟨H1, c1, g1⟩ := push_at h x (by omega)
  have hl : (hs ++ [x]).length = hs.length + 1 := by simp
  obtain ⟨id, m2, c2⟩ := len_at g1 (by omega)
  obtain ⟨H3, hs', c3, g3, g4, g5⟩ := up_at (j := hs.length) (by omega) (by omega) g1 (by
    intro y hy
    rcases List.mem_append.1 hy with hy | hy
    · exact hf y hy
    · rw [List.mem_singleton] at hy; rw [hy]; exact hx) (up_new hh x)
  refine ⟨H3, hs', ?_, g3, g4, g5⟩
  refine calls_by Try.func31 rfl rfl rfl ?_
  refine Exists.intro _ (Exists.intro _ (And.intro at_push (And.intro rfl (Exists.intro _ (Exists.intro _ (Exists.intro _ (And.intro c1 ?_)))))))
  refine Exists.intro _ (Exists.intro _ (And.intro m2 (And.intro rfl (Exists.intro _ (Exists.intro _ (Exists.intro _ (And.intro c2 ?_)))))))
  refine Exists.intro (.int .i64 (hs.length : Int)) (And.intro (i64_eq (by omega) (by omega) (by omega)) ?_)
  refine And.intro rfl (Exists.intro _ (Exists.intro _ (Exists.intro _ (And.intro c3 ?_))))
  exact And.intro rfl (And.intro rfl rfl)
/-- heap.Pop: the first is taken away. -/
theorem hpop_at {H0 H : Hp} {idv : Nat} {a : Hd} {tl : List Hd} (h : HS H0 H idv (a :: tl)) (hf : ∀ h ∈ tl, full h) (hh : ∀ (k : Nat) (c d : Hd), 0 < k → k < tl.length + 1 → par k ≠ 0 → (a :: tl)[par k]? = some c → (a :: tl)[k]? = some d → leH c d) (hlen : tl.length < 1000000) :
    ∃ H' hs' y, CallsA Try.prog K0 32 [ifc idv] H [] (Hd.ival y) H' [] ∧ HS H0 H' idv hs' ∧ hs'.Perm tl ∧ HeapN hs' hs'.length := by
  have hl : (a :: tl).length = tl.length + 1 := rfl
  have ha : (a :: tl)[0]? = some a := rfl
  obtain ⟨b, hb⟩ : ∃ b, (a :: tl)[tl.length]? = some b := ⟨(a :: tl)[tl.length]'(by omega), List.getElem?_eq_getElem _⟩
  obtain ⟨id, m1, c1⟩ := len_at h (by omega)
  obtain ⟨id2, H2, m2, c2, g2⟩ := swap_at h ha hb
  have hget := fun k => swp_get ha hb k
  have hperm := swp_perm ha hb
  obtain ⟨bb, H3, c3, hs2, g3, p3, q3, r3⟩ := down_at (n := tl.length) (by have := swp_len (a :: tl) 0 tl.length a b; unfold swp at this; omega) (by have := swp_len (a :: tl) 0 tl.length a b; unfold swp at this; omega) g2 (by
      intro k x hk hx
      have hx : (swp (a :: tl) 0 tl.length a b)[k]? = some x := hx
      rw [hget, if_neg (by omega)] at hx
      by_cases h0 : k = 0
      · rw [if_pos h0] at hx; injection hx with hx
        rw [← hx]
        obtain ⟨m, hm⟩ : ∃ m, tl.length = m + 1 := ⟨tl.length - 1, by omega⟩
        rw [hm, List.getElem?_cons_succ] at hb
        exact hf b (List.mem_of_getElem? hb)
      · rw [if_neg h0] at hx
        obtain ⟨m, rfl⟩ : ∃ m, k = m + 1 := ⟨k - 1, by omega⟩
        rw [List.getElem?_cons_succ] at hx
        exact hf x (List.mem_of_getElem? hx)) (by
      constructor
      · intro k c d h1 h2 h3 h4 h5
        have h4 : (swp (a :: tl) 0 tl.length a b)[par k]? = some c := h4
        have h5 : (swp (a :: tl) 0 tl.length a b)[k]? = some d := h5
        have hpk : par k < k := by unfold par; omega
        rw [hget, if_neg (by omega), if_neg h3] at h4
        rw [hget, if_neg (by omega), if_neg (by omega)] at h5
        exact hh k c d h1 (by omega) h3 h4 h5
      · intro k c d h1 h2 h3 h4; omega)
  have p3 : hs2.Perm (swp (a :: tl) 0 tl.length a b) := p3
  have hl2 : hs2.length = tl.length + 1 := by rw [p3.length_eq, swp_len]; rfl
  have hlast : hs2[tl.length]? = some a := by
    have := r3 tl.length (Nat.le_refl _)
    rw [this]
    show (swp (a :: tl) 0 tl.length a b)[tl.length]? = some a
    rw [hget, if_pos rfl]
  obtain ⟨hs3, rfl⟩ : ∃ hs3, hs2 = hs3 ++ [a] := by
    refine ⟨hs2.take tl.length, ?_⟩
    have hlt : tl.length < hs2.length := by omega
    rw [List.getElem?_eq_getElem hlt] at hlast
    injection hlast with hlast
    conv => lhs; rw [← List.take_append_drop tl.length hs2, List.drop_eq_getElem_cons hlt, hlast, List.drop_eq_nil_of_le (by omega)]
  have hl3 : hs3.length = tl.length := by rw [List.length_append, List.length_singleton] at hl2; omega
  obtain ⟨H4, c4, g4⟩ := pop_at g3 (by omega)
  refine ⟨H4, hs3, a, ?_, g4, ?_, ?_⟩
  · refine calls_by Try.func32 rfl rfl rfl ?_
    refine Exists.intro _ (Exists.intro _ (And.intro m1 (And.intro rfl (Exists.intro _ (Exists.intro _ (Exists.intro _ (And.intro c1 ?_)))))))
    refine Exists.intro (.int .i64 (tl.length : Int)) (And.intro (i64_eq (by omega) (by omega) (by omega)) ?_)
    refine Exists.intro _ (Exists.intro _ (And.intro m2 (And.intro rfl (Exists.intro _ (Exists.intro _ (Exists.intro _ (And.intro c2 ?_)))))))
    refine And.intro rfl (Exists.intro _ (Exists.intro _ (Exists.intro _ (And.intro c3 ?_))))
    refine Exists.intro _ (Exists.intro _ (And.intro at_pop (And.intro rfl (Exists.intro _ (Exists.intro _ (Exists.intro _ (And.intro c4 ?_)))))))
    exact And.intro rfl (And.intro rfl rfl)
  · have h1 : (hs3 ++ [a]).Perm (a :: tl) := p3.trans hperm
    have h2 : (a :: hs3).Perm (a :: tl) := (List.perm_append_singleton a hs3).symm.trans h1
    exact h2.cons_inv
  · intro k c d h1 h2 h3 h4
    refine q3 k c d h1 (by omega) ?_ ?_
    · rw [List.getElem?_append_left (by have := (List.getElem?_eq_some_iff.1 h3).1; omega)]; exact h3
    · rw [List.getElem?_append_left h2]; exact h4
/-- heap.Fix, at the first. -/
theorem hfix_at {H0 H : Hp} {idv : Nat} {hs : List Hd} (h : HS H0 H idv hs) (hf : ∀ h ∈ hs, full h) (hd : DownOk hs hs.length 0) (hpos : 0 < hs.length) (hlen : hs.length < 1000000) :
    ∃ H' hs', CallsA Try.prog K0 33 [ifc idv, .int .i64 0] H [] (.tup []) H' [] ∧ HS H0 H' idv hs' ∧ hs'.Perm hs ∧ HeapN hs' hs'.length := by
  obtain ⟨id, m1, c1⟩ := len_at h hpos
  obtain ⟨b, H2, c2, hs2, g2, p2, q2, _⟩ := down_at (n := hs.length) (Nat.le_refl _) (by omega) h (fun k x _ hx => hf x (List.mem_of_getElem? hx)) hd
  have hl2 : hs2.length = hs.length := p2.length_eq
  cases b with
  | true =>
    refine ⟨H2, hs2, ?_, g2, p2, by rw [hl2]; exact q2⟩
    refine calls_by Try.func33 rfl rfl rfl ?_
    refine Exists.intro _ (Exists.intro _ (And.intro m1 (And.intro rfl (Exists.intro _ (Exists.intro _ (Exists.intro _ (And.intro c1 ?_)))))))
    refine And.intro rfl (Exists.intro _ (Exists.intro _ (Exists.intro _ (And.intro c2 ?_))))
    refine And.intro (fun h => by cases h) (fun _ => ?_)
    exact And.intro rfl (And.intro rfl rfl)
  | false =>
    obtain ⟨H3, hs3, c3, g3, p3, q3⟩ := up_at (j := 0) (by omega) (by omega) g2 (fun x hx => hf x (p2.mem_iff.1 hx)) (by
      constructor
      · intro k x y h1 h2 h3 h4 h5
        exact q2 k x y h1 (by omega) h4 h5
      · intro k x y h1 h2 h3 h4; omega)
    refine ⟨H3, hs3, ?_, g3, p3.trans p2, q3⟩
    refine calls_by Try.func33 rfl rfl rfl ?_
    refine Exists.intro _ (Exists.intro _ (And.intro m1 (And.intro rfl (Exists.intro _ (Exists.intro _ (Exists.intro _ (And.intro c1 ?_)))))))
    refine And.intro rfl (Exists.intro _ (Exists.intro _ (Exists.intro _ (And.intro c2 ?_))))
    refine And.intro (fun _ => ?_) (fun h => by cases h)
    refine And.intro rfl (Exists.intro _ (Exists.intro _ (Exists.intro _ (And.intro c3 ?_))))
    exact And.intro rfl (And.intro rfl rfl)
end Go.Proofs.Ytnajopkaepjncaa

/- Merge: taking the first of all heads. -/
namespace Go.Proofs.Ytnajopkaepjncaa
open Am
set_option linter.unusedVariables false
set_option linter.unusedSimpArgs false
set_option maxRecDepth 8000

def putO (out : List Row) (r : Row) : List Row := match out[out.length - 1]? with
  | none => out ++ [r]
  | some l => match l.key != r.key with
    | true => out ++ [r]
    | false => match l.seq != r.seq with
      | true => out ++ [r]
      | false => out
def rows (hs : List Hd) : Nat := (hs.map fun h => h.rest.length).sum
theorem rows_perm {a b : List Hd} (h : a.Perm b) : rows a = rows b := (h.map _).sum_nat
theorem cut_one (r : Row) (rs : List Row) (sp : List AV) : sliceA Try.prog 22 (.lst 39 ((r :: rs).map Row.enc) sp) (some (.int .i64 1)) none none = some (.lst 39 (rs.map Row.enc) sp) := by
  have hu : Try.prog.underlying 22 = some (.slice 39) := Try.underlying22
  unfold sliceA
  rw [hu]
  have b1 : boundA (some (.int .i64 1)) 0 ((r :: rs).map Row.enc).length = some 1 := by
    unfold boundA
    simp only [List.map_cons, List.length_cons]
    rw [if_pos (by omega)]; rfl
  have b2 : boundA none ((r :: rs).map Row.enc).length (((r :: rs).map Row.enc).length + sp.length) = some ((r :: rs).map Row.enc).length := rfl
  have b3 : boundA none (((r :: rs).map Row.enc).length + sp.length) (((r :: rs).map Row.enc).length + sp.length) = some (((r :: rs).map Row.enc).length + sp.length) := rfl
  simp only [Option.isSome_none, Bool.false_and, Bool.false_eq_true, if_false, b1, b2, b3]
  have h1 : ((((r :: rs).map Row.enc) ++ sp).take ((r :: rs).map Row.enc).length).drop 1 = rs.map Row.enc := by
    rw [List.take_left' rfl]; rfl
  have h2 : ((((r :: rs).map Row.enc) ++ sp).take (((r :: rs).map Row.enc).length + sp.length)).drop ((r :: rs).map Row.enc).length = sp := by
    rw [List.take_of_length_le (by rw [List.length_append]; exact Nat.le_refl _)]
    exact List.drop_left' rfl
  rw [h1, h2]
  simp
theorem splice_rest (a : Hd) (tl : List Hd) (junk : List AV) (rs : List Row) : splice (flatH (a :: tl) ++ junk) 0 [.lst 39 (rs.map Row.enc) a.sp] = flatH (⟨rs, a.sp, a.list⟩ :: tl) ++ junk := rfl
theorem down_first {a a' : Hd} {tl : List Hd} (h : HeapN (a :: tl) (a :: tl).length) : DownOk (a' :: tl) (a' :: tl).length 0 := by
  constructor
  · intro k c d h1 h2 h3 h4 h5
    obtain ⟨m, hm⟩ : ∃ m, par k = m + 1 := ⟨par k - 1, by omega⟩
    obtain ⟨q, rfl⟩ : ∃ q, k = q + 1 := ⟨k - 1, by omega⟩
    refine h (q + 1) c d h1 h2 ?_ ?_
    · rw [hm] at h4 ⊢; exact h4
    · exact h5
  · intro k c d h1 h2 h3 h4; omega
/-- What a round keeps. -/
structure Keeps (Inv : List Hd → List Row → Prop) : Prop where
  step : ∀ (a : Hd) (r : Row) (rs : List Row) (tl : List Hd) (out : List Row), a.rest = r :: rs → (∀ b ∈ tl, full b ∧ leH a b) → Inv (a :: tl) out → Inv (match rs with | [] => tl | _ :: _ => ⟨rs, a.sp, a.list⟩ :: tl) (putO out r)
  perm : ∀ (hs hs' : List Hd) (out : List Row), hs'.Perm hs → Inv hs out → Inv hs' out
noncomputable abbrev c22 : Code := at_ Try.f22 [true, true, true, true, false, false, false]
theorem putO_len (out : List Row) (r : Row) : (putO out r).length ≤ out.length + 1 := by
  unfold putO
  split
  · simp
  · split
    · simp
    · split
      · simp
      · omega
theorem merge_loop {Inv : List Hd → List Row → Prop} (hI : Keeps Inv) (H0 : Hp) (idv : Nat) : ∀ (m : Nat) (hs : List Hd) (out : List Row) (H : Hp), rows hs = m → out.length + m < 1000000 → hs.length < 1000000 → HS H0 H idv hs → (∀ h ∈ hs, full h) → HeapN hs hs.length → Inv hs out →
    L Try.prog K0 (K0.vars 22) 88 c22 [(4, .ptr idv 0), (7, built 39 (out.map Row.enc))] H (ownd 7 (out.map Row.enc)) []
      fun e env H' sl cl => cl = [] ∧ e = .exit 2 ∧ Pf H0 H' ∧ ∃ out', sl = ownd 7 (out'.map Row.enc) ∧ Inv [] out' ∧ ∃ v4 v32, env = [(4, v4), (7, built 39 (out'.map Row.enc)), (32, v32)] := by
  intro m
  induction m using Nat.strongRecOn with
  | _ m ih =>
    intro hs out H hm hlen hhl h hf hh hinv
    refine L_round ?_
    cases hs with
    | nil =>
      obtain ⟨h1, h2, h3⟩ := h
      rcases h3 with ⟨_, hv⟩ | ⟨id, junk, hge, hv, hb, hpos⟩
      · cases out with
        | nil =>
          refine Exists.intro _ (And.intro hv ?_)
          refine And.intro (fun h => by cases h) (fun _ => ?_)
          exact And.intro rfl (And.intro rfl (And.intro h1 ⟨_, rfl, hinv, _, _, rfl⟩))
        | cons o os =>
          refine Exists.intro _ (And.intro hv ?_)
          refine And.intro (fun h => by cases h) (fun _ => ?_)
          exact And.intro rfl (And.intro rfl (And.intro h1 ⟨_, rfl, hinv, _, _, rfl⟩))
      · cases out with
        | nil =>
          refine Exists.intro _ (And.intro hv ?_)
          refine And.intro (fun h => by cases h) (fun _ => ?_)
          exact And.intro rfl (And.intro rfl (And.intro h1 ⟨_, rfl, hinv, _, _, rfl⟩))
        | cons o os =>
          refine Exists.intro _ (And.intro hv ?_)
          refine And.intro (fun h => by cases h) (fun _ => ?_)
          exact And.intro rfl (And.intro rfl (And.intro h1 ⟨_, rfl, hinv, _, _, rfl⟩))
    | cons a tl =>
      obtain ⟨r, rs, har⟩ := List.exists_cons_of_ne_nil (hf a (by simp))
      obtain ⟨arest, asp, alist⟩ := a
      change arest = r :: rs at har
      subst har
      obtain ⟨id, junk, hge, hv, hb, hpos⟩ := h.sl (Nat.succ_pos _)
      obtain ⟨a1, a2⟩ := flatH_at (Hd.mk (r :: rs) asp alist :: tl) junk (i := 0) (h := ⟨r :: rs, asp, alist⟩) rfl
      have hidl : id < H.length := (List.getElem?_eq_some_iff.1 hb).1
      have hvl : idv < H.length := (List.getElem?_eq_some_iff.1 hv).1
      have hne := var_ne hv hb
      have hmm : rows (Hd.mk (r :: rs) asp alist :: tl) = rs.length + 1 + rows tl := by simp [rows]
      have hleast : ∀ b ∈ tl, full b ∧ leH ⟨r :: rs, asp, alist⟩ b := by
        intro b hb'
        refine ⟨hf b (by simp [hb']), ?_⟩
        obtain ⟨k, hk, rfl⟩ := List.getElem_of_mem hb'
        exact heap_least (n := tl.length + 1) (fun k x _ hx => hf x (List.mem_of_getElem? hx)) hh (a := ⟨r :: rs, asp, alist⟩) rfl (Nat.le_refl _) (k + 1) tl[k] (Nat.succ_pos _) (by omega) (by rw [List.getElem?_cons_succ]; exact List.getElem?_eq_getElem hk)
      have hstep := hI.step ⟨r :: rs, asp, alist⟩ r rs tl out rfl hleast hinv
      have hput := putO_len out r
      have ho : (H ++ [some (Blk.mk 39 r.enc.cells)])[id]? = some (some ⟨61, flatH (Hd.mk (r :: rs) asp alist :: tl) ++ junk⟩) := get_app hb _
      have hov : (H ++ [some (Blk.mk 39 r.enc.cells)])[idv]? = some (some ⟨57, [.sl 61 id 0 (tl.length + 1)]⟩) := get_app hv _
      -- what stands behind the taking
      have hs2 : HS H0 ((H ++ [some (Blk.mk 39 r.enc.cells)]).set id (some ⟨61, flatH (Hd.mk rs asp alist :: tl) ++ junk⟩)) idv (⟨rs, asp, alist⟩ :: tl) :=
        HS.put (hs := Hd.mk (r :: rs) asp alist :: tl) (h.1.app _) h.2.1 hge hov ho rfl (by rw [List.length_append, flatH_len]; simp only [List.length_cons]; omega)
      have hv2 : ((H ++ [some (Blk.mk 39 r.enc.cells)]).set id (some (Blk.mk 61 (flatH (Hd.mk rs asp alist :: tl) ++ junk))))[idv]? = some (some ⟨57, [.sl 61 id 0 (tl.length + 1)]⟩) := by
        rw [List.getElem?_set_ne hne]; exact hov
      have hb2 : ((H ++ [some (Blk.mk 39 r.enc.cells)]).set id (some (Blk.mk 61 (flatH (Hd.mk rs asp alist :: tl) ++ junk))))[id]? = some (some ⟨61, flatH (Hd.mk rs asp alist :: tl) ++ junk⟩) := get_set_same ho _
      obtain ⟨b1, b2⟩ := flatH_at (Hd.mk rs asp alist :: tl) junk (i := 0) (h := ⟨rs, asp, alist⟩) rfl
      have hll : 2 ≤ (flatH (Hd.mk (r :: rs) asp alist :: tl) ++ junk).length := by rw [List.length_append, flatH_len]; simp; omega
      have behindPop : rs = [] → ∃ H3 y, CallsA Try.prog K0 32 [ifc idv] ((H ++ [some (Blk.mk 39 r.enc.cells)]).set id (some ⟨61, flatH (Hd.mk rs asp alist :: tl) ++ junk⟩)) [] (Hd.ival y) H3 [] ∧
          L Try.prog K0 (K0.vars 22) 88 c22 [(4, .ptr idv 0), (7, built 39 ((putO out r).map Row.enc))] H3 (ownd 7 ((putO out r).map Row.enc)) []
            fun e env H' sl cl => cl = [] ∧ e = .exit 2 ∧ Pf H0 H' ∧ ∃ out', sl = ownd 7 (out'.map Row.enc) ∧ Inv [] out' ∧ ∃ v4 v32, env = [(4, v4), (7, built 39 (out'.map Row.enc)), (32, v32)] := by
        intro hrs
        obtain ⟨H3, hs3, y, c3, g3, p3, q3⟩ := hpop_at hs2 (fun x hx => hf x (by simp [hx])) (fun k c d k1 k2 k3 k4 k5 => (down_first (a' := ⟨rs, asp, alist⟩) hh).1 k c d k1 k2 k3 k4 k5) (by simp only [List.length_cons] at hhl; omega)
        refine ⟨H3, y, c3, ?_⟩
        have hr3 := rows_perm p3
        have hl3 := p3.length_eq
        refine ih (rows hs3) (by rw [hr3]; omega) hs3 (putO out r) H3 rfl (by rw [hr3]; omega) (by simp only [List.length_cons] at hhl; omega) g3 (fun x hx => hf x (by simp [p3.mem_iff.1 hx])) q3 ?_
        refine hI.perm tl hs3 (putO out r) p3 ?_
        rw [hrs] at hstep
        exact hstep
      have behindFix : ∀ q qs, rs = q :: qs → ∃ H3, CallsA Try.prog K0 33 [ifc idv, .int .i64 0] ((H ++ [some (Blk.mk 39 r.enc.cells)]).set id (some ⟨61, flatH (Hd.mk rs asp alist :: tl) ++ junk⟩)) [] (.tup []) H3 [] ∧
          L Try.prog K0 (K0.vars 22) 88 c22 [(4, .ptr idv 0), (7, built 39 ((putO out r).map Row.enc))] H3 (ownd 7 ((putO out r).map Row.enc)) []
            fun e env H' sl cl => cl = [] ∧ e = .exit 2 ∧ Pf H0 H' ∧ ∃ out', sl = ownd 7 (out'.map Row.enc) ∧ Inv [] out' ∧ ∃ v4 v32, env = [(4, v4), (7, built 39 (out'.map Row.enc)), (32, v32)] := by
        intro q qs hrs
        obtain ⟨H3, hs3, c3, g3, p3, q3⟩ := hfix_at hs2 (by
          intro x hx
          rcases List.mem_cons.1 hx with hx | hx
          · rw [hx]; intro e; rw [hrs] at e; cases e
          · exact hf x (by simp [hx])) (down_first hh) (Nat.succ_pos _) (by simp only [List.length_cons] at hhl ⊢; omega)
        refine ⟨H3, c3, ?_⟩
        have hr3 := rows_perm p3
        have hl3 := p3.length_eq
        have hr4 : rows (Hd.mk rs asp alist :: tl) = rs.length + rows tl := by simp [rows]
        refine ih (rows hs3) (by rw [hr3]; omega) hs3 (putO out r) H3 rfl (by rw [hr3]; omega) (by simp only [List.length_cons] at hhl hl3; omega) g3 (fun x hx => ?_) q3 ?_
        · rcases List.mem_cons.1 (p3.mem_iff.1 hx) with hx | hx
          · rw [hx]; intro e; rw [hrs] at e; cases e
          · exact hf x (by simp [hx])
        · refine hI.perm (⟨rs, asp, alist⟩ :: tl) hs3 (putO out r) p3 ?_
          rw [hrs] at hstep ⊢
          exact hstep
      cases out with
      | nil =>
        have hpo : putO [] r = [r] := rfl
        refine Exists.intro _ (And.intro hv ?_)
        refine And.intro (fun _ => ?_) (fun h => by
          exfalso
          have h := dec_false (p := ((tl.length + 1 : Nat) : Int) > 0) h
          omega)
        refine Exists.intro _ (And.intro hv ?_)
        refine Exists.intro _ (And.intro (idx_hd (i := 0) (Nat.succ_pos _)) ?_)
        refine Exists.intro _ (And.intro hb (wRd_lst a1 ?_))
        refine And.intro (Int.le_refl _) (Exists.intro r.enc (And.intro rfl ?_))
        refine Exists.intro _ (And.intro rfl (Exists.intro _ (And.intro rfl ?_)))
        refine Exists.intro _ (And.intro (get_last _ _) (And.intro rfl (And.intro (Nat.succ_pos _) (And.intro (Nat.le_of_ble_eq_true rfl) (Exists.intro (H ++ [some (Blk.mk 39 r.enc.cells)]) (And.intro (set_last _ _ _) (Exists.intro [] (And.intro (nil_cells _) ?_))))))))
        refine Exists.intro _ (And.intro rfl ?_)
        refine And.intro (fun _ => ?_) (fun h => by cases h)
        refine And.intro (fun _ => ?_) (fun h => by cases h)
        refine And.intro (fun _ => ?_) (fun h => by cases h)
        refine Exists.intro _ (And.intro (get_last _ _) ?_)
        refine Exists.intro _ (And.intro rfl ?_)
        refine And.intro (Nat.le_of_ble_eq_true rfl) (And.intro (Nat.le_of_ble_eq_true rfl) (And.intro (Nat.le_of_ble_eq_true rfl) (And.intro rfl ?_)))
        refine Exists.intro _ (And.intro rfl ?_)
        refine Exists.intro _ (And.intro hov ?_)
        refine Exists.intro _ (And.intro hov ?_)
        refine Exists.intro _ (And.intro (idx_hd (i := 0) (Nat.succ_pos _)) ?_)
        refine Exists.intro _ (And.intro ho (wRd_lst a1 ?_))
        refine Exists.intro _ (And.intro (cut_one r rs asp) ?_)
        refine Exists.intro _ (And.intro (idx_hd (i := 0) (Nat.succ_pos _)) ?_)
        refine Exists.intro _ (And.intro ho (And.intro rfl (And.intro (Nat.succ_pos _) (And.intro (?_ : 0 * 2 + 0 + 1 ≤ (flatH (Hd.mk (r :: rs) asp alist :: tl) ++ junk).length) (Exists.intro ((H ++ [some (Blk.mk 39 r.enc.cells)]).set id (some (Blk.mk 61 (flatH (Hd.mk rs asp alist :: tl) ++ junk)))) (And.intro (?_ : (H ++ [some (Blk.mk 39 r.enc.cells)]).set id (some (Blk.mk 61 (splice (flatH (Hd.mk (r :: rs) asp alist :: tl) ++ junk) (0 * 2 + 0) [.lst 39 (rs.map Row.enc) asp]))) = _) (Exists.intro [] (And.intro (nil_cells _) ?_))))))))
        · omega
        · exact congrArg (fun z => (H ++ [some (Blk.mk 39 r.enc.cells)]).set id (some (Blk.mk 61 z))) (splice_rest ⟨r :: rs, asp, alist⟩ tl junk rs)
        refine Exists.intro _ (And.intro hv2 ?_)
        refine Exists.intro _ (And.intro (idx_hd (i := 0) (Nat.succ_pos _)) ?_)
        refine Exists.intro _ (And.intro hb2 (wRd_lst b1 ?_))
        cases rs with
        | nil =>
          refine And.intro (fun _ => ?_) (fun h => by cases h)
          obtain ⟨H3, y, c3, l3⟩ := behindPop rfl
          refine And.intro rfl (Exists.intro _ (Exists.intro _ (Exists.intro _ (And.intro c3 ?_))))
          rw [hpo] at l3
          exact l3
        | cons q qs =>
          refine And.intro (fun h => ?_) (fun _ => ?_)
          · exfalso
            replace h : (((((q :: qs).map Row.enc).length : Nat) : Int) == 0) = true := h
            rw [beq_iff_eq, List.length_map, List.length_cons] at h
            omega
          obtain ⟨H3, c3, l3⟩ := behindFix q qs rfl
          refine And.intro rfl (Exists.intro _ (Exists.intro _ (Exists.intro _ (And.intro c3 ?_))))
          rw [hpo] at l3
          exact l3
      | cons o os =>
        obtain ⟨z, hz⟩ := last_get (xs := o :: os) (Nat.succ_pos _)
        have hol : (o :: os).length < 1000000 := by omega
        refine Exists.intro _ (And.intro hv ?_)
        refine And.intro (fun _ => ?_) (fun h => by
          exfalso
          have h := dec_false (p := ((tl.length + 1 : Nat) : Int) > 0) h
          omega)
        refine Exists.intro _ (And.intro hv ?_)
        refine Exists.intro _ (And.intro (idx_hd (i := 0) (Nat.succ_pos _)) ?_)
        refine Exists.intro _ (And.intro hb (wRd_lst a1 ?_))
        refine And.intro (Int.le_refl _) (Exists.intro r.enc (And.intro rfl ?_))
        refine Exists.intro _ (And.intro rfl (Exists.intro _ (And.intro rfl ?_)))
        refine Exists.intro _ (And.intro (get_last _ _) (And.intro rfl (And.intro (Nat.succ_pos _) (And.intro (Nat.le_of_ble_eq_true rfl) (Exists.intro (H ++ [some (Blk.mk 39 r.enc.cells)]) (And.intro (set_last _ _ _) (Exists.intro [] (And.intro (nil_cells _) ?_))))))))
        refine Exists.intro _ (And.intro rfl ?_)
        refine And.intro (fun h => by
          exfalso
          replace h : (((((o :: os).map Row.enc).length : Nat) : Int) == 0) = true := h
          rw [beq_iff_eq, List.length_map, List.length_cons] at h
          omega) (fun _ => ?_)
        refine Exists.intro (.int .i64 (((o :: os).length - 1 : Nat) : Int)) (And.intro (i64_eq (by simp only [List.length_cons, List.length_map]; omega) (by omega) (by omega)) ?_)
        refine And.intro (Int.natCast_nonneg _) (Exists.intro _ (And.intro (get_row hz) ?_))
        refine Exists.intro _ (And.intro (get_last _ _) ?_)
        refine And.intro (fun h1 => ?_) (fun h1 => ?_)
        · replace h1 : (z.key != r.key) = true := h1
          have hpo : putO (o :: os) r = (o :: os) ++ [r] := by unfold putO; rw [hz]; simp only [h1]
          refine And.intro (fun _ => ?_) (fun h => by cases h)
          refine Exists.intro _ (And.intro (get_last _ _) ?_)
          refine Exists.intro _ (And.intro rfl ?_)
          refine And.intro rfl (And.intro rfl (And.intro (?_ : (((o :: os).map Row.enc).length + 1) * 48 ≤ 140737488355328) (And.intro (?_ : ((o :: os).map Row.enc).length + 1 ≤ 140737488355328) (And.intro (Nat.le_of_ble_eq_true rfl) (And.intro rfl (Exists.intro (((o :: os) ++ [r]).map Row.enc) (And.intro (by rw [List.map_append]; rfl) ?_)))))))
          · rw [List.length_map]; omega
          · rw [List.length_map]; omega
          refine Exists.intro _ (And.intro rfl ?_)
          refine Exists.intro _ (And.intro hov ?_)
          refine Exists.intro _ (And.intro hov ?_)
          refine Exists.intro _ (And.intro (idx_hd (i := 0) (Nat.succ_pos _)) ?_)
          refine Exists.intro _ (And.intro ho (wRd_lst a1 ?_))
          refine Exists.intro _ (And.intro (cut_one r rs asp) ?_)
          refine Exists.intro _ (And.intro (idx_hd (i := 0) (Nat.succ_pos _)) ?_)
          refine Exists.intro _ (And.intro ho (And.intro rfl (And.intro (Nat.succ_pos _) (And.intro (?_ : 0 * 2 + 0 + 1 ≤ (flatH (Hd.mk (r :: rs) asp alist :: tl) ++ junk).length) (Exists.intro ((H ++ [some (Blk.mk 39 r.enc.cells)]).set id (some (Blk.mk 61 (flatH (Hd.mk rs asp alist :: tl) ++ junk)))) (And.intro (?_ : (H ++ [some (Blk.mk 39 r.enc.cells)]).set id (some (Blk.mk 61 (splice (flatH (Hd.mk (r :: rs) asp alist :: tl) ++ junk) (0 * 2 + 0) [.lst 39 (rs.map Row.enc) asp]))) = _) (Exists.intro [] (And.intro (nil_cells _) ?_))))))))
          · omega
          · exact congrArg (fun z => (H ++ [some (Blk.mk 39 r.enc.cells)]).set id (some (Blk.mk 61 z))) (splice_rest ⟨r :: rs, asp, alist⟩ tl junk rs)
          refine Exists.intro _ (And.intro hv2 ?_)
          refine Exists.intro _ (And.intro (idx_hd (i := 0) (Nat.succ_pos _)) ?_)
          refine Exists.intro _ (And.intro hb2 (wRd_lst b1 ?_))
          cases rs with
          | nil =>
            refine And.intro (fun _ => ?_) (fun h => by cases h)
            obtain ⟨H3, y, c3, l3⟩ := behindPop rfl
            refine And.intro rfl (Exists.intro _ (Exists.intro _ (Exists.intro _ (And.intro c3 ?_))))
            rw [hpo] at l3
            exact l3
          | cons q qs =>
            refine And.intro (fun h => ?_) (fun _ => ?_)
            · exfalso
              replace h : (((((q :: qs).map Row.enc).length : Nat) : Int) == 0) = true := h
              rw [beq_iff_eq, List.length_map, List.length_cons] at h
              omega
            obtain ⟨H3, c3, l3⟩ := behindFix q qs rfl
            refine And.intro rfl (Exists.intro _ (Exists.intro _ (Exists.intro _ (And.intro c3 ?_))))
            rw [hpo] at l3
            exact l3
        · replace h1 : (z.key != r.key) = false := h1
          refine Exists.intro (.int .i64 (((o :: os).length - 1 : Nat) : Int)) (And.intro (i64_eq (by simp only [List.length_cons, List.length_map]; omega) (by omega) (by omega)) ?_)
          refine And.intro (Int.natCast_nonneg _) (Exists.intro _ (And.intro (get_row hz) ?_))
          refine Exists.intro _ (And.intro (get_last _ _) ?_)
          refine And.intro (fun h2 => ?_) (fun h2 => ?_)
          · replace h2 : (z.seq != r.seq) = true := h2
            have hpo : putO (o :: os) r = (o :: os) ++ [r] := by unfold putO; rw [hz]; simp only [h1, h2]
            refine Exists.intro _ (And.intro (get_last _ _) ?_)
            refine Exists.intro _ (And.intro rfl ?_)
            refine And.intro rfl (And.intro rfl (And.intro (?_ : (((o :: os).map Row.enc).length + 1) * 48 ≤ 140737488355328) (And.intro (?_ : ((o :: os).map Row.enc).length + 1 ≤ 140737488355328) (And.intro (Nat.le_of_ble_eq_true rfl) (And.intro rfl (Exists.intro (((o :: os) ++ [r]).map Row.enc) (And.intro (by rw [List.map_append]; rfl) ?_)))))))
            · rw [List.length_map]; omega
            · rw [List.length_map]; omega
            refine Exists.intro _ (And.intro rfl ?_)
            refine Exists.intro _ (And.intro hov ?_)
            refine Exists.intro _ (And.intro hov ?_)
            refine Exists.intro _ (And.intro (idx_hd (i := 0) (Nat.succ_pos _)) ?_)
            refine Exists.intro _ (And.intro ho (wRd_lst a1 ?_))
            refine Exists.intro _ (And.intro (cut_one r rs asp) ?_)
            refine Exists.intro _ (And.intro (idx_hd (i := 0) (Nat.succ_pos _)) ?_)
            refine Exists.intro _ (And.intro ho (And.intro rfl (And.intro (Nat.succ_pos _) (And.intro (?_ : 0 * 2 + 0 + 1 ≤ (flatH (Hd.mk (r :: rs) asp alist :: tl) ++ junk).length) (Exists.intro ((H ++ [some (Blk.mk 39 r.enc.cells)]).set id (some (Blk.mk 61 (flatH (Hd.mk rs asp alist :: tl) ++ junk)))) (And.intro (?_ : (H ++ [some (Blk.mk 39 r.enc.cells)]).set id (some (Blk.mk 61 (splice (flatH (Hd.mk (r :: rs) asp alist :: tl) ++ junk) (0 * 2 + 0) [.lst 39 (rs.map Row.enc) asp]))) = _) (Exists.intro [] (And.intro (nil_cells _) ?_))))))))
            · omega
            · exact congrArg (fun z => (H ++ [some (Blk.mk 39 r.enc.cells)]).set id (some (Blk.mk 61 z))) (splice_rest ⟨r :: rs, asp, alist⟩ tl junk rs)
            refine Exists.intro _ (And.intro hv2 ?_)
            refine Exists.intro _ (And.intro (idx_hd (i := 0) (Nat.succ_pos _)) ?_)
            refine Exists.intro _ (And.intro hb2 (wRd_lst b1 ?_))
            cases rs with
            | nil =>
              refine And.intro (fun _ => ?_) (fun h => by cases h)
              obtain ⟨H3, y, c3, l3⟩ := behindPop rfl
              refine And.intro rfl (Exists.intro _ (Exists.intro _ (Exists.intro _ (And.intro c3 ?_))))
              rw [hpo] at l3
              exact l3
            | cons q qs =>
              refine And.intro (fun h => ?_) (fun _ => ?_)
              · exfalso
                replace h : (((((q :: qs).map Row.enc).length : Nat) : Int) == 0) = true := h
                rw [beq_iff_eq, List.length_map, List.length_cons] at h
                omega
              obtain ⟨H3, c3, l3⟩ := behindFix q qs rfl
              refine And.intro rfl (Exists.intro _ (Exists.intro _ (Exists.intro _ (And.intro c3 ?_))))
              rw [hpo] at l3
              exact l3
          · replace h2 : (z.seq != r.seq) = false := h2
            have hpo : putO (o :: os) r = (o :: os) := by unfold putO; rw [hz]; simp only [h1, h2]
            refine Exists.intro _ (And.intro rfl ?_)
            refine Exists.intro _ (And.intro hov ?_)
            refine Exists.intro _ (And.intro hov ?_)
            refine Exists.intro _ (And.intro (idx_hd (i := 0) (Nat.succ_pos _)) ?_)
            refine Exists.intro _ (And.intro ho (wRd_lst a1 ?_))
            refine Exists.intro _ (And.intro (cut_one r rs asp) ?_)
            refine Exists.intro _ (And.intro (idx_hd (i := 0) (Nat.succ_pos _)) ?_)
            refine Exists.intro _ (And.intro ho (And.intro rfl (And.intro (Nat.succ_pos _) (And.intro (?_ : 0 * 2 + 0 + 1 ≤ (flatH (Hd.mk (r :: rs) asp alist :: tl) ++ junk).length) (Exists.intro ((H ++ [some (Blk.mk 39 r.enc.cells)]).set id (some (Blk.mk 61 (flatH (Hd.mk rs asp alist :: tl) ++ junk)))) (And.intro (?_ : (H ++ [some (Blk.mk 39 r.enc.cells)]).set id (some (Blk.mk 61 (splice (flatH (Hd.mk (r :: rs) asp alist :: tl) ++ junk) (0 * 2 + 0) [.lst 39 (rs.map Row.enc) asp]))) = _) (Exists.intro [] (And.intro (nil_cells _) ?_))))))))
            · omega
            · exact congrArg (fun z => (H ++ [some (Blk.mk 39 r.enc.cells)]).set id (some (Blk.mk 61 z))) (splice_rest ⟨r :: rs, asp, alist⟩ tl junk rs)
            refine Exists.intro _ (And.intro hv2 ?_)
            refine Exists.intro _ (And.intro (idx_hd (i := 0) (Nat.succ_pos _)) ?_)
            refine Exists.intro _ (And.intro hb2 (wRd_lst b1 ?_))
            cases rs with
            | nil =>
              refine And.intro (fun _ => ?_) (fun h => by cases h)
              obtain ⟨H3, y, c3, l3⟩ := behindPop rfl
              refine And.intro rfl (Exists.intro _ (Exists.intro _ (Exists.intro _ (And.intro c3 ?_))))
              rw [hpo] at l3
              exact l3
            | cons q qs =>
              refine And.intro (fun h => ?_) (fun _ => ?_)
              · exfalso
                replace h : (((((q :: qs).map Row.enc).length : Nat) : Int) == 0) = true := h
                rw [beq_iff_eq, List.length_map, List.length_cons] at h
                omega
              obtain ⟨H3, c3, l3⟩ := behindFix q qs rfl
              refine And.intro rfl (Exists.intro _ (Exists.intro _ (Exists.intro _ (And.intro c3 ?_))))
              rw [hpo] at l3
              exact l3
end Go.Proofs.Ytnajopkaepjncaa

/- Merge, whole. -/
namespace Go.Proofs.Ytnajopkaepjncaa
open Am
set_option linter.unusedVariables false
set_option linter.unusedSimpArgs false
set_option maxRecDepth 8000

/-- A list of rows, as it comes in: nil, or with what lies behind it. -/
structure Ls where
  l : List Row
  v : Option (List AV)
def Ls.av (q : Ls) : AV := match q.v with
  | none => .nils
  | some sp => .lst 39 (q.l.map Row.enc) sp
def Ls.ok (q : Ls) : Prop := q.v = none → q.l = []
theorem Ls.rows {q : Ls} (h : q.ok) : IsRows q.av q.l := by
  unfold Ls.av
  cases hv : q.v with
  | none => exact .inl ⟨rfl, h hv⟩
  | some sp => exact .inr ⟨sp, rfl⟩
def IsLists (x : AV) (ps : List Ls) : Prop := (x = .nils ∧ ps = []) ∨ ∃ sp, x = .lst 22 (ps.map Ls.av) sp
def headOne (q : Ls) (i : Nat) : List Hd := match q.l with
  | [] => []
  | _ :: _ => [⟨q.l, q.v.getD [], (i : Int)⟩]
def headL : List Ls → Nat → List Hd
  | [], _ => []
  | q :: r, i => headOne q i ++ headL r (i + 1)
theorem headL_snoc : ∀ (a : List Ls) (q : Ls) (i : Nat), headL (a ++ [q]) i = headL a i ++ headOne q (i + a.length)
  | [], q, i => by simp [headL]
  | b :: a, q, i => by
    have := headL_snoc a q (i + 1)
    simp only [List.cons_append, headL, this, List.length_cons]
    rw [show i + 1 + a.length = i + (a.length + 1) by omega]
    simp
theorem headL_full : ∀ (a : List Ls) (i : Nat), ∀ h ∈ headL a i, full h
  | [], i, h, hm => by cases hm
  | b :: a, i, h, hm => by
    simp only [headL, List.mem_append] at hm
    rcases hm with hm | hm
    · unfold headOne at hm
      split at hm
      · cases hm
      · rename_i x xs hx
        rw [List.mem_singleton] at hm
        rw [hm]
        intro e
        rw [hx] at e; cases e
    · exact headL_full a (i + 1) h hm
theorem headL_len : ∀ (a : List Ls) (i : Nat), (headL a i).length ≤ a.length
  | [], i => Nat.le_refl _
  | b :: a, i => by
    have := headL_len a (i + 1)
    simp only [headL, List.length_append, List.length_cons]
    have h1 : (headOne b i).length ≤ 1 := by unfold headOne; split <;> simp
    omega
def total (ps : List Ls) : Nat := (ps.map fun q => q.l.length).sum
theorem headL_rows : ∀ (a : List Ls) (i : Nat), rows (headL a i) = total a
  | [], i => rfl
  | b :: a, i => by
    have := headL_rows a (i + 1)
    unfold rows total at *
    simp only [headL, List.map_append, List.sum_append, List.map_cons, List.sum_cons, this]
    congr 1
    unfold headOne
    cases hb : b.l with
    | nil => rfl
    | cons x xs => simp
theorem get_ls {ps : List Ls} {k : Nat} {q : Ls} (h : ps[k]? = some q) : (ps.map Ls.av)[k]? = some q.av := by rw [List.getElem?_map, h]; rfl

noncomputable abbrev c22a : Code := at_ Try.f22 [true, true, false, true, false, false]
theorem heads_loop (ps : List Ls) (hok : ∀ q ∈ ps, q.ok) (hps : ps.length < 100000) (hl : ∀ q ∈ ps, q.l.length < 1048576) (sp : List AV) (H0 : Hp) (idv : Nat) : ∀ (m i : Nat) (hs : List Hd) (H : Hp), ps.length - i = m → HS H0 H idv hs → hs.Perm (headL (ps.take i) 0) → HeapN hs hs.length → (∀ q ∈ ps.take i, orderP q.l = true) →
    L Try.prog K0 (K0.vars 22) 88 c22a [(4, .ptr idv 0), (10, .lst 22 (ps.map Ls.av) sp), (11, .int .i64 ((ps.map Ls.av).length : Nat)), (12, .int .i64 (i : Int))] H [] []
      fun e env H' sl cl => sl = [] ∧ cl = [] ∧ Pf H0 H' ∧ ((e = .ret ∧ (∃ q ∈ ps, orderP q.l = false) ∧ env = [(2, .nils), (3, .int .i64 2)]) ∨ (e = .exit 0 ∧ (∀ q ∈ ps, orderP q.l = true) ∧ (∃ hs', HS H0 H' idv hs' ∧ hs'.Perm (headL ps 0) ∧ HeapN hs' hs'.length) ∧ ∃ v10 v11 v12 v13, env = [(4, .ptr idv 0), (10, v10), (11, v11), (12, v12), (13, v13)])) := by
  intro m
  induction m with
  | zero =>
    intro i hs H hm h hp hh hord
    have ht : ps.take i = ps := List.take_of_length_le (by omega)
    rw [ht] at hp hord
    refine L_round ?_
    refine And.intro (fun h => ?_) (fun _ => ?_)
    · exfalso
      have h := dec_true (p := (i : Int) < ((ps.map Ls.av).length : Nat)) h
      rw [List.length_map] at h
      omega
    · exact And.intro rfl (And.intro rfl (And.intro h.1 (.inr ⟨rfl, hord, ⟨hs, h, hp, hh⟩, _, _, _, _, rfl⟩)))
  | succ m ih =>
    intro i hs H hm h hp hh hord
    have hi : i < ps.length := by omega
    obtain ⟨q, hq⟩ : ∃ q, ps[i]? = some q := ⟨ps[i], List.getElem?_eq_getElem hi⟩
    have hqm : q ∈ ps := List.mem_of_getElem? hq
    have hqok := hok q hqm
    have hql := hl q hqm
    have htk : ps.take (i + 1) = ps.take i ++ [q] := by rw [List.take_add_one, hq]; rfl
    have hti : (ps.take i).length = i := by rw [List.length_take]; omega
    have hlen := hp.length_eq
    have hll := headL_len (ps.take i) 0
    have hfull : ∀ x ∈ hs, full x := fun x hx => headL_full _ _ x (hp.mem_iff.1 hx)
    obtain ⟨E, hE⟩ := order_spec (Ls.rows hqok) (by omega) H []
    have h2 := h.app E
    have hnext : ∀ hs2 H2, HS H0 H2 idv hs2 → hs2.Perm (hs ++ headOne q i) → HeapN hs2 hs2.length → orderP q.l = true → L Try.prog K0 (K0.vars 22) 88 c22a [(4, .ptr idv 0), (10, .lst 22 (ps.map Ls.av) sp), (11, .int .i64 ((ps.map Ls.av).length : Nat)), (12, .int .i64 ((i + 1 : Nat) : Int))] H2 [] []
      fun e env H' sl cl => sl = [] ∧ cl = [] ∧ Pf H0 H' ∧ ((e = .ret ∧ (∃ q ∈ ps, orderP q.l = false) ∧ env = [(2, .nils), (3, .int .i64 2)]) ∨ (e = .exit 0 ∧ (∀ q ∈ ps, orderP q.l = true) ∧ (∃ hs', HS H0 H' idv hs' ∧ hs'.Perm (headL ps 0) ∧ HeapN hs' hs'.length) ∧ ∃ v10 v11 v12 v13, env = [(4, .ptr idv 0), (10, v10), (11, v11), (12, v12), (13, v13)])) := by
      intro hs2 H2 g1 g2 g3 g4
      refine ih (i + 1) hs2 H2 (by omega) g1 ?_ g3 ?_
      · rw [htk, headL_snoc, hti, Nat.zero_add]
        exact g2.trans (hp.append_right _)
      · rw [htk]
        intro x hx
        rcases List.mem_append.1 hx with hx | hx
        · exact hord x hx
        · rw [List.mem_singleton] at hx; rw [hx]; exact g4
    obtain ⟨ql, qv⟩ := q
    refine L_round ?_
    cases qv with
    | none =>
      obtain rfl : ql = [] := hqok rfl
      refine And.intro (fun _ => ?_) (fun h => by
        exfalso
        have h := dec_false (p := (i : Int) < ((ps.map Ls.av).length : Nat)) h
        rw [List.length_map] at h
        omega)
      refine And.intro (Int.natCast_nonneg _) (Exists.intro _ (And.intro (get_ls hq) ?_))
      refine And.intro rfl (Exists.intro _ (Exists.intro _ (Exists.intro _ (And.intro hE ?_))))
      refine And.intro (fun h => by cases h) (fun _ => ?_)
      refine And.intro (fun h => by cases h) (fun _ => ?_)
      refine Exists.intro (.int .i64 ((i + 1 : Nat) : Int)) (And.intro (i64_eq (by omega) (by omega) (by omega)) ?_)
      exact hnext hs _ h2 (by show hs.Perm (hs ++ []); rw [List.append_nil]) hh rfl
    | some qs =>
      refine And.intro (fun _ => ?_) (fun h => by
        exfalso
        have h := dec_false (p := (i : Int) < ((ps.map Ls.av).length : Nat)) h
        rw [List.length_map] at h
        omega)
      refine And.intro (Int.natCast_nonneg _) (Exists.intro _ (And.intro (get_ls hq) ?_))
      refine And.intro rfl (Exists.intro _ (Exists.intro _ (Exists.intro _ (And.intro hE ?_))))
      cases ho : orderP ql with
      | false =>
        refine And.intro (fun _ => ?_) (fun h => by cases h)
        exact And.intro rfl (And.intro rfl (And.intro h2.1 (.inl ⟨rfl, ⟨_, hqm, ho⟩, rfl⟩)))
      | true =>
        refine And.intro (fun h => by cases h) (fun _ => ?_)
        cases ql with
        | nil =>
          refine And.intro (fun h => by cases h) (fun _ => ?_)
          refine Exists.intro (.int .i64 ((i + 1 : Nat) : Int)) (And.intro (i64_eq (by omega) (by omega) (by omega)) ?_)
          exact hnext hs _ h2 (by show hs.Perm (hs ++ []); rw [List.append_nil]) hh rfl
        | cons r rs =>
          refine And.intro (fun _ => ?_) (fun h => by
            exfalso
            have h := dec_false (p := (((r :: rs).map Row.enc).length : Int) > 0) h
            rw [List.length_map, List.length_cons] at h
            omega)
          obtain ⟨H3, hs3, c3, g3, p3, q3⟩ := hpush_at h2 hfull hh (by omega) ⟨r :: rs, qs, (i : Int)⟩ (by intro e; cases e)
          refine And.intro rfl (Exists.intro _ (Exists.intro _ (Exists.intro _ (And.intro c3 ?_))))
          refine Exists.intro (.int .i64 ((i + 1 : Nat) : Int)) (And.intro (i64_eq (by omega) (by omega) (by omega)) ?_)
          exact hnext hs3 _ g3 p3 q3 ho
/-- What Merge answers. -/
def mergeR (Inv : List Hd → List Row → Prop) (ps : List Ls) (y : AV) : Prop := ((∃ q ∈ ps, orderP q.l = false) ∧ y = .tup [.nils, .int .i64 2]) ∨ ((∀ q ∈ ps, orderP q.l = true) ∧ ∃ out, Inv [] out ∧ y = .tup [built 39 (out.map Row.enc), .int .i64 0])
theorem merge_spec {Inv : List Hd → List Row → Prop} (hI : Keeps Inv) {x : AV} {ps : List Ls} (hx : IsLists x ps) (hok : ∀ q ∈ ps, q.ok) (hps : ps.length < 100000) (hl : ∀ q ∈ ps, q.l.length < 1048576) (ht : total ps < 1000000) (h0 : (∀ q ∈ ps, orderP q.l = true) → Inv (headL ps 0) []) :
    GivesE Try.prog K0 22 [x] (mergeR Inv ps) := by
  refine givesE_by Try.func22 rfl rfl rfl fun H => ?_
  have hs0 : HS H (H ++ [some (Blk.mk 57 [.nils])]) H.length [] := ⟨(Pf.refl H).app _, Nat.le_refl _, .inl ⟨rfl, get_last _ _⟩⟩
  have hp0 : ([] : List Hd).Perm (headL (ps.take 0) 0) := by rw [List.take_zero]; exact List.Perm.refl _
  have hh0 : HeapN [] ([] : List Hd).length := fun k a b h1 h2 => absurd h2 (Nat.not_lt_zero _)
  rcases hx with ⟨rfl, rfl⟩ | ⟨sp, rfl⟩
  · refine Exists.intro _ (And.intro rfl (Exists.intro _ (And.intro rfl ?_)))
    refine L_round ?_
    refine And.intro (fun h => by cases h) (fun _ => ?_)
    refine L_mono (merge_loop hI H H.length 0 [] [] (H ++ [some (Blk.mk 57 [.nils])]) rfl (by simp) (by simp) hs0 (fun x hx => by cases hx) hh0 (h0 (fun q hq => by cases hq))) ?_
    rintro e env H' sl cl ⟨rfl, rfl, hpf, out', rfl, hinv, v4, v32, rfl⟩
    cases out' with
    | nil => exact Exists.intro _ (And.intro rfl (And.intro (.inr ⟨fun q hq => (by cases hq), [], hinv, rfl⟩) (And.intro hpf.more rfl)))
    | cons o os => exact Exists.intro _ (And.intro rfl (And.intro (.inr ⟨fun q hq => (by cases hq), o :: os, hinv, rfl⟩) (And.intro hpf.more rfl)))
  · refine Exists.intro _ (And.intro rfl (Exists.intro _ (And.intro rfl ?_)))
    refine L_mono (heads_loop ps hok hps hl sp H H.length ps.length 0 [] (H ++ [some (Blk.mk 57 [.nils])]) rfl hs0 hp0 hh0 (fun q hq => by rw [List.take_zero] at hq; cases hq)) ?_
    rintro e env H' sl cl ⟨rfl, rfl, hpf, h⟩
    rcases h with ⟨rfl, hbad, rfl⟩ | ⟨rfl, hall, ⟨hs, g1, g2, g3⟩, v10, v11, v12, v13, rfl⟩
    · exact Exists.intro _ (And.intro rfl (And.intro (.inl ⟨hbad, rfl⟩) (And.intro hpf.more rfl)))
    · have hr := rows_perm g2
      rw [headL_rows] at hr
      have hl2 := g2.length_eq
      have hl3 := headL_len ps 0
      refine L_mono (merge_loop hI H H.length (rows hs) hs [] H' rfl (by simp only [List.length_nil]; omega) (by omega) g1 (fun x hx => headL_full _ _ x (g2.mem_iff.1 hx)) g3 (hI.perm (headL ps 0) hs [] g2 (h0 hall))) ?_
      rintro e env H2 sl cl ⟨rfl, rfl, hpf2, out', rfl, hinv, v4, v32, rfl⟩
      cases out' with
      | nil => exact Exists.intro _ (And.intro rfl (And.intro (.inr ⟨hall, [], hinv, rfl⟩) (And.intro hpf2.more rfl)))
      | cons o os => exact Exists.intro _ (And.intro rfl (And.intro (.inr ⟨hall, o :: os, hinv, rfl⟩) (And.intro hpf2.more rfl)))
end Go.Proofs.Ytnajopkaepjncaa

/- Are there more lists, or rows, than one may take? -/
namespace Go.Proofs.Ytnajopkaepjncaa
open Am
set_option linter.unusedVariables false
set_option maxRecDepth 8000

def big (q : Ls) : Bool := decide (q.l.length > 60)
def manyP (ps : List Ls) : Bool := decide (ps.length > 20) || ps.any big
noncomputable abbrev c21 : Code := at_ Try.f21 [true, true, false, true, false, false]
theorem many_loop (ps : List Ls) (hok : ∀ q ∈ ps, q.ok) (hps : ps.length ≤ 20) (sp : List AV) (cells : Cl) : ∀ (m i : Nat) (H : Hp), ps.length - i = m →
    L Try.prog K0 (K0.vars 21) 19 c21 [(0, .lst 22 (ps.map Ls.av) sp), (3, .int .i64 (i : Int))] H [] cells
      fun e env H' sl cl => sl = [] ∧ cl = cells ∧ H' = H ∧ ((e = .ret ∧ (ps.drop i).any big = true ∧ env = [(2, .bool true)]) ∨ (e = .exit 0 ∧ (ps.drop i).any big = false ∧ ∃ v0 v3 v10, env = [(0, v0), (3, v3), (10, v10)])) := by
  intro m
  induction m with
  | zero =>
    intro i H hm
    have hd : ps.drop i = [] := List.drop_eq_nil_of_le (by omega)
    rw [hd]
    refine L_round ?_
    refine And.intro (fun h => ?_) (fun _ => ?_)
    · exfalso
      have h := dec_true (p := (i : Int) < ((ps.map Ls.av).length : Nat)) h
      rw [List.length_map] at h
      omega
    · exact And.intro rfl (And.intro rfl (And.intro rfl (.inr ⟨rfl, rfl, _, _, _, rfl⟩)))
  | succ m ih =>
    intro i H hm
    have hi : i < ps.length := by omega
    obtain ⟨q, hq⟩ : ∃ q, ps[i]? = some q := ⟨ps[i], List.getElem?_eq_getElem hi⟩
    have hd : ps.drop i = q :: ps.drop (i + 1) := by
      rw [List.drop_eq_getElem_cons hi]
      rw [List.getElem?_eq_getElem hi] at hq
      injection hq with hq
      rw [hq]
    rw [hd, List.any_cons]
    have hqok := hok q (List.mem_of_getElem? hq)
    obtain ⟨ql, qv⟩ := q
    refine L_round ?_
    refine And.intro (fun _ => ?_) (fun h => by
      exfalso
      have h := dec_false (p := (i : Int) < ((ps.map Ls.av).length : Nat)) h
      rw [List.length_map] at h
      omega)
    cases qv with
    | none =>
      obtain rfl : ql = [] := hqok rfl
      refine And.intro (Int.natCast_nonneg _) (Exists.intro _ (And.intro (get_ls hq) ?_))
      refine And.intro (fun h => by cases h) (fun _ => ?_)
      refine Exists.intro (.int .i64 ((i + 1 : Nat) : Int)) (And.intro (i64_eq (by omega) (by omega) (by omega)) ?_)
      exact ih (i + 1) H (by omega)
    | some qs =>
      refine And.intro (Int.natCast_nonneg _) (Exists.intro _ (And.intro (get_ls hq) ?_))
      refine And.intro (fun h => ?_) (fun h => ?_)
      · have h := dec_true (p := ((ql.map Row.enc).length : Int) > 60) h
        rw [List.length_map] at h
        have hb : big ⟨ql, some qs⟩ = true := decide_eq_true (by show ql.length > 60; omega)
        rw [hb, Bool.true_or]
        exact And.intro rfl (And.intro rfl (And.intro rfl (.inl ⟨rfl, rfl, rfl⟩)))
      · have h := dec_false (p := ((ql.map Row.enc).length : Int) > 60) h
        rw [List.length_map] at h
        have hb : big ⟨ql, some qs⟩ = false := decide_eq_false (by show ¬ ql.length > 60; omega)
        rw [hb, Bool.false_or]
        refine Exists.intro (.int .i64 ((i + 1 : Nat) : Int)) (And.intro (i64_eq (by omega) (by omega) (by omega)) ?_)
        exact ih (i + 1) H (by omega)
theorem many_spec {x : AV} {ps : List Ls} (hx : IsLists x ps) (hok : ∀ q ∈ ps, q.ok) : Gv 21 [x] (.bool (manyP ps)) := by
  refine GivesR.one (gives_by Try.func21 rfl rfl rfl fun H cells => ?_)
  rcases hx with ⟨rfl, rfl⟩ | ⟨sp, rfl⟩
  · refine And.intro (fun h => by cases h) (fun _ => ?_)
    refine L_round ?_
    refine And.intro (fun h => by cases h) (fun _ => ?_)
    exact Exists.intro _ (And.intro rfl (And.intro rfl (And.intro (More.refl H) rfl)))
  · refine And.intro (fun h => ?_) (fun h => ?_)
    · have h := dec_true (p := ((ps.map Ls.av).length : Int) > 20) h
      rw [List.length_map] at h
      have hm : manyP ps = true := by unfold manyP; rw [decide_eq_true (by omega : ps.length > 20), Bool.true_or]
      rw [hm]
      exact Exists.intro _ (And.intro rfl (And.intro rfl (And.intro (More.refl H) rfl)))
    · have h := dec_false (p := ((ps.map Ls.av).length : Int) > 20) h
      rw [List.length_map] at h
      have hm : manyP ps = ps.any big := by unfold manyP; rw [decide_eq_false (by omega : ¬ ps.length > 20), Bool.false_or]
      rw [hm]
      refine L_mono (many_loop ps hok (by omega) sp cells ps.length 0 H rfl) ?_
      rintro e env H' sl cl ⟨rfl, rfl, rfl, h⟩
      rw [List.drop_zero] at h
      rcases h with ⟨rfl, hb, rfl⟩ | ⟨rfl, hb, v0, v3, v10, rfl⟩
      · rw [hb]
        exact Exists.intro _ (And.intro rfl (And.intro rfl (And.intro (More.refl H') rfl)))
      · rw [hb]
        exact Exists.intro _ (And.intro rfl (And.intro rfl (And.intro (More.refl H') rfl)))
theorem few_of {ps : List Ls} (h : manyP ps = false) : ps.length ≤ 20 ∧ (∀ q ∈ ps, q.l.length ≤ 60) ∧ total ps ≤ 1200 := by
  unfold manyP at h
  rw [Bool.or_eq_false_iff] at h
  have h1 := dec_false h.1
  have h2 : ∀ q ∈ ps, q.l.length ≤ 60 := by
    intro q hq
    have h3 := List.any_eq_false.1 h.2 q hq
    unfold big at h3
    simp at h3
    omega
  refine ⟨by omega, h2, ?_⟩
  have h4 : ∀ rs : List Ls, (∀ q ∈ rs, q.l.length ≤ 60) → total rs ≤ 60 * rs.length := by
    intro rs
    induction rs with
    | nil => intro _; exact Nat.zero_le _
    | cons q rs ih =>
      intro hq
      have h5 := ih fun q h => hq q (List.mem_cons_of_mem _ h)
      have h6 := hq q List.mem_cons_self
      unfold total at *
      simp only [List.map_cons, List.sum_cons, List.length_cons]
      omega
  have := h4 ps h2
  omega
end Go.Proofs.Ytnajopkaepjncaa
