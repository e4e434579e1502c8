/- What nobody needs changes nothing: the walk through the law's own function, the ways together. -/
import Derived.Test.YtnajopkaepjncaaM6
import Derived.Test.YtnajopkaepjncaaM7
import Derived.Test.YtnajopkaepjncaaM8
import Derived.Test.YtnajopkaepjncaaM4
import Derived.Test.YtnajopkaepjncaaM5
/- What nobody needs changes nothing: the walk through the law's own function, the ways together. -/
namespace Go.Proofs.Ytnajopkaepjncaa
open Am
set_option linter.unusedVariables false
set_option maxRecDepth 8000
set_option maxHeartbeats 8000000

theorem nothing_mid (H0 : Hp) {x y z : AV} {l o : List Row} {ms : List Int} (hx : IsRows x l) (hy : IsRows y o) (hz : IsMarks z ms) (hs : SeqOk l) (hc1 : l.length ≤ 100) (hc2 : o.length ≤ 100) (hc3 : ms.length ≤ 50) (bot : Bool) (rest : Env) :
    cC Try.prog K0 (K0.vars 9) 147 c9m ((0, x) :: (1, y) :: (2, z) :: (3, .bool bot) :: rest) H0 [] [] fun e env' H1 sl cl => match e with
      | .exit _ => False
      | _ => ∃ x, resA2 Try.prog ⟨env', H1, [], []⟩ Try.f9.results.toList = some x ∧ x = .bool true ∧ More H0 H1 ∧ cl = [] := by
  obtain ⟨y1, E1, hy1, hE1⟩ := drop_spec hx hz (by omega) (by omega) bot H0
  obtain ⟨E2, hE2⟩ := older_spec hy hx (by omega) (by omega) (H0 ++ E1) []
  have hold : ∀ r ∈ oldP o l, oldB l r = true := fun r hr => (List.mem_filter.1 hr).2
  have holen : (oldP o l).length ≤ 100 := Nat.le_trans (List.length_filter_le _ _) hc2
  have hro : IsRows (built 39 ((oldP o l).map Row.enc)) (oldP o l) := (built_out _).rows
  obtain ⟨E3, hE3⟩ := at_spec hro (by omega) 0 ((H0 ++ E1) ++ E2) []
  have hvo := built_out (oldP o l)
  have hp : ∃ v12 n12, IsL 41 v12 ((atP (oldP o l) 0).map Pr.enc) ∧ atA (oldP o l) 0 = .tup [v12, .int .i64 n12] ∧ ((orderP (oldP o l) = true ∧ n12 = 0) ∨ (orderP (oldP o l) = false ∧ n12 = 2)) ∨ (atA (oldP o l) 0 = .tup [.nils, .int .i64 2]) := by
    cases hoo : orderP (oldP o l) with
    | false => exact ⟨.nils, 2, .inr (by unfold atA; rw [hoo])⟩
    | true => exact ⟨_, 0, .inl ⟨built_isL _ _, by unfold atA; rw [hoo], .inl ⟨rfl, rfl⟩⟩⟩
  have hmm : More H0 (((H0 ++ E1) ++ E2) ++ E3) := ((More.app H0 E1).trans (More.app _ E2)).trans (More.app _ E3)
  have ends : orderP l = true → orderP (oldP o l) = true → ∀ (vf : AV), IsRows vf (dropP l ms bot) → ∀ rest, (bot = true → cC Try.prog K0 (K0.vars 9) 147 c9e ((0, x) :: (2, z) :: (9, vf) :: (11, .nils) :: rest) (((H0 ++ E1) ++ E2) ++ E3) [] [] fun e env' H1 sl cl => match e with
      | .exit _ => False
      | _ => ∃ x, resA2 Try.prog ⟨env', H1, [], []⟩ Try.f9.results.toList = some x ∧ x = .bool true ∧ More H0 H1 ∧ cl = []) ∧ (bot = false → cC Try.prog K0 (K0.vars 9) 147 c9e ((0, x) :: (2, z) :: (9, vf) :: (11, built 39 ((oldP o l).map Row.enc)) :: rest) (((H0 ++ E1) ++ E2) ++ E3) [] [] fun e env' H1 sl cl => match e with
      | .exit _ => False
      | _ => ∃ x, resA2 Try.prog ⟨env', H1, [], []⟩ Try.f9.results.toList = some x ∧ x = .bool true ∧ More H0 H1 ∧ cl = []) := by
    intro ho hoo vf hf rest
    have hsub := drop_sub ho hs ms bot
    have hfl := hsub.length_le
    have hfo : orderP (dropP l ms bot) = true := of_ordA (List.Pairwise.sublist hsub (ordA_of ho))
    constructor
    · intro hb
      subst hb
      exact nothing_end H0 hx hz hf (.inl ⟨rfl, rfl⟩) hc1 hfl (Nat.zero_le _) hc3 ho hfo rfl (fun a b ha hb n hn => by
        rw [made_one (ordA_of ho) ha, made_one (ordA_of hfo) hb]
        exact at_bottom ho hs hn) rest _ hmm
    · intro hb
      subst hb
      exact nothing_end H0 hx hz hf hro hc1 hfl holen hc3 ho hfo hoo (fun a b ha hb n hn => at_merged ho hs hold ha hb hn) rest _ hmm
  have hnd : orderP l = true → bot = true → ∀ (i : Nat) (r : Row), (dropP l ms bot)[i]? = some r → r.kind ≠ 1 → ∃ r', (dropP l ms bot)[i + 1]? = some r' ∧ r'.key = r.key := fun ho hb i r hr hk => by
    subst hb
    exact no_delete ho hs hr hk
  have hdl : (dropP l ms bot).length < 1048576 ∨ orderP l = false := by
    cases ho : orderP l with
    | false => exact .inr rfl
    | true => have := (drop_sub ho hs ms bot).length_le; exact .inl (by omega)
  have hnl : orderP l = true → bot = true → ∀ sf, L Try.prog K0 (K0.vars 9) 147 c9a [(0, x), (2, z), (9, .lst 39 ((dropP l ms bot).map Row.enc) sf), (11, .nils), (14, .int .i64 ((0 : Nat) : Int))] (((H0 ++ E1) ++ E2) ++ E3) [] []
      fun e env H' sl cl => H' = (((H0 ++ E1) ++ E2) ++ E3) ∧ cl = [] ∧ sl = [] ∧ e = .exit 0 ∧ ∃ v14 v69, env = [(0, x), (2, z), (9, .lst 39 ((dropP l ms bot).map Row.enc) sf), (11, .nils), (14, v14), (69, v69)] := fun ho hb sf =>
    nodel_loop hx hz (dropP l ms bot) sf (by
      rcases hdl with h | h
      · exact h
      · rw [ho] at h; cases h) (hnd ho hb) [] _ 0 _ rfl
  clear hro hnd hdl
  revert hE2 hE3 hvo ends
  generalize built 39 ((oldP o l).map Row.enc) = vo
  intro hE2 hE3 hvo ends
  cases hoo : orderP (oldP o l) with
  | false =>
    have ha : atA (oldP o l) 0 = .tup [.nils, .int .i64 2] := by unfold atA; rw [hoo]
    rw [ha] at hE3
    clear hp ha hnl ends
    rcases hy1 with ⟨ho, rfl⟩ | ⟨ho, vf, rfl, hf⟩
    · exact mid1 H0 E1 E2 E3 hx hy hz hvo bot rest hmm hE2 hE1 hE3
    · exact mid2 H0 E1 E2 E3 hx hy hz hvo bot rest hmm hE2 hf hE1 hE3
  | true =>
    have ha : atA (oldP o l) 0 = .tup [built 41 ((atP (oldP o l) 0).map Pr.enc), .int .i64 0] := by unfold atA; rw [hoo]
    rw [ha] at hE3
    have hv := built_isL 41 ((atP (oldP o l) 0).map Pr.enc)
    rcases hy1 with ⟨ho, rfl⟩ | ⟨ho, vf, rfl, hf⟩
    · exact mid3 H0 E1 E2 E3 hx hy hz hvo bot rest hmm hE2 hv hE1 hE3
    · have ends := ends ho hoo vf hf
      have hnl := hnl ho
      rcases hf with ⟨hf, _⟩ | ⟨sf, hf⟩
      · exact mid4a H0 E1 E2 E3 hx hy hz hvo bot rest hmm hE2 hf hv hE1 hE3 ends hnl
      · exact mid4b H0 E1 E2 E3 hx hy hz hvo bot rest hmm hE2 sf hf hv hE1 hE3 ends hnl
end Go.Proofs.Ytnajopkaepjncaa

/- What nobody needs changes nothing: the law's own function, whole. -/
namespace Go.Proofs.Ytnajopkaepjncaa
open Am
set_option linter.unusedVariables false
set_option maxRecDepth 8000

theorem le_of_gt {n m : Nat} (h : decide (((n : Nat) : Int) > (m : Int)) = false) : n ≤ m := by
  have h := of_decide_eq_false h
  omega
theorem MergeNothing_spec {x y z : AV} {l o : List Row} {ms : List Int} (hx : IsRows x l) (hy : IsRows y o) (hz : IsMarks z ms) (hs : SeqOk l) (bot : Bool) : GivesE Try.prog K0 9 [x, y, z, .bool bot] (fun y => y = .bool true) := by
  refine givesE_by Try.func9 rfl rfl rfl fun H => ?_
  have hx0 := hx
  have hy0 := hy
  have hz0 := hz
  rcases hx with ⟨rfl, hl⟩ | ⟨_, rfl⟩ <;> rcases hy with ⟨rfl, ho⟩ | ⟨_, rfl⟩ <;> rcases hz with ⟨rfl, hm⟩ | ⟨_, rfl⟩
  · skip
    refine And.intro (fun h => by cases h) (fun _ => ?_)
    have hc0 : l.length ≤ 100 := by rw [hl]; exact Nat.zero_le _
    refine And.intro (fun h => by cases h) (fun _ => ?_)
    have hc1 : o.length ≤ 100 := by rw [ho]; exact Nat.zero_le _
    refine And.intro (fun h => by cases h) (fun _ => ?_)
    have hc2 : ms.length ≤ 50 := by rw [hm]; exact Nat.zero_le _
    exact nothing_mid H hx0 hy0 hz0 hs hc0 hc1 hc2 bot _
  · skip
    refine And.intro (fun h => by cases h) (fun _ => ?_)
    have hc0 : l.length ≤ 100 := by rw [hl]; exact Nat.zero_le _
    refine And.intro (fun h => by cases h) (fun _ => ?_)
    have hc1 : o.length ≤ 100 := by rw [ho]; exact Nat.zero_le _
    refine And.intro (fun _ => ?_) (fun h => ?_)
    · refine And.intro rfl (Exists.intro _ (Exists.intro _ (Exists.intro _ (And.intro (awake_spec _ []) ?_))))
      exact Exists.intro _ (And.intro rfl (And.intro rfl (And.intro (More.refl H) rfl)))
    have hc2 : ms.length ≤ 50 := by have h := le_of_gt h; rw [List.length_map] at h; exact h
    exact nothing_mid H hx0 hy0 hz0 hs hc0 hc1 hc2 bot _
  · skip
    refine And.intro (fun h => by cases h) (fun _ => ?_)
    have hc0 : l.length ≤ 100 := by rw [hl]; exact Nat.zero_le _
    refine And.intro (fun _ => ?_) (fun h => ?_)
    · refine And.intro (fun _ => ?_) (fun h => by cases h)
      refine And.intro rfl (Exists.intro _ (Exists.intro _ (Exists.intro _ (And.intro (awake_spec _ []) ?_))))
      exact Exists.intro _ (And.intro rfl (And.intro rfl (And.intro (More.refl H) rfl)))
    have hc1 : o.length ≤ 100 := by have h := le_of_gt h; rw [List.length_map] at h; exact h
    refine And.intro (fun h => by cases h) (fun _ => ?_)
    have hc2 : ms.length ≤ 50 := by rw [hm]; exact Nat.zero_le _
    exact nothing_mid H hx0 hy0 hz0 hs hc0 hc1 hc2 bot _
  · skip
    refine And.intro (fun h => by cases h) (fun _ => ?_)
    have hc0 : l.length ≤ 100 := by rw [hl]; exact Nat.zero_le _
    refine And.intro (fun _ => ?_) (fun h => ?_)
    · refine And.intro (fun _ => ?_) (fun h => by cases h)
      refine And.intro rfl (Exists.intro _ (Exists.intro _ (Exists.intro _ (And.intro (awake_spec _ []) ?_))))
      exact Exists.intro _ (And.intro rfl (And.intro rfl (And.intro (More.refl H) rfl)))
    have hc1 : o.length ≤ 100 := by have h := le_of_gt h; rw [List.length_map] at h; exact h
    refine And.intro (fun _ => ?_) (fun h => ?_)
    · refine And.intro rfl (Exists.intro _ (Exists.intro _ (Exists.intro _ (And.intro (awake_spec _ []) ?_))))
      exact Exists.intro _ (And.intro rfl (And.intro rfl (And.intro (More.refl H) rfl)))
    have hc2 : ms.length ≤ 50 := by have h := le_of_gt h; rw [List.length_map] at h; exact h
    exact nothing_mid H hx0 hy0 hz0 hs hc0 hc1 hc2 bot _
  · skip
    refine And.intro (fun _ => ?_) (fun h => ?_)
    · refine And.intro (fun _ => ?_) (fun h => by cases h)
      refine And.intro (fun _ => ?_) (fun h => by cases h)
      refine And.intro rfl (Exists.intro _ (Exists.intro _ (Exists.intro _ (And.intro (awake_spec _ []) ?_))))
      exact Exists.intro _ (And.intro rfl (And.intro rfl (And.intro (More.refl H) rfl)))
    have hc0 : l.length ≤ 100 := by have h := le_of_gt h; rw [List.length_map] at h; exact h
    refine And.intro (fun h => by cases h) (fun _ => ?_)
    have hc1 : o.length ≤ 100 := by rw [ho]; exact Nat.zero_le _
    refine And.intro (fun h => by cases h) (fun _ => ?_)
    have hc2 : ms.length ≤ 50 := by rw [hm]; exact Nat.zero_le _
    exact nothing_mid H hx0 hy0 hz0 hs hc0 hc1 hc2 bot _
  · skip
    refine And.intro (fun _ => ?_) (fun h => ?_)
    · refine And.intro (fun _ => ?_) (fun h => by cases h)
      refine And.intro (fun _ => ?_) (fun h => by cases h)
      refine And.intro rfl (Exists.intro _ (Exists.intro _ (Exists.intro _ (And.intro (awake_spec _ []) ?_))))
      exact Exists.intro _ (And.intro rfl (And.intro rfl (And.intro (More.refl H) rfl)))
    have hc0 : l.length ≤ 100 := by have h := le_of_gt h; rw [List.length_map] at h; exact h
    refine And.intro (fun h => by cases h) (fun _ => ?_)
    have hc1 : o.length ≤ 100 := by rw [ho]; exact Nat.zero_le _
    refine And.intro (fun _ => ?_) (fun h => ?_)
    · refine And.intro rfl (Exists.intro _ (Exists.intro _ (Exists.intro _ (And.intro (awake_spec _ []) ?_))))
      exact Exists.intro _ (And.intro rfl (And.intro rfl (And.intro (More.refl H) rfl)))
    have hc2 : ms.length ≤ 50 := by have h := le_of_gt h; rw [List.length_map] at h; exact h
    exact nothing_mid H hx0 hy0 hz0 hs hc0 hc1 hc2 bot _
  · skip
    refine And.intro (fun _ => ?_) (fun h => ?_)
    · refine And.intro (fun _ => ?_) (fun h => by cases h)
      refine And.intro (fun _ => ?_) (fun h => by cases h)
      refine And.intro rfl (Exists.intro _ (Exists.intro _ (Exists.intro _ (And.intro (awake_spec _ []) ?_))))
      exact Exists.intro _ (And.intro rfl (And.intro rfl (And.intro (More.refl H) rfl)))
    have hc0 : l.length ≤ 100 := by have h := le_of_gt h; rw [List.length_map] at h; exact h
    refine And.intro (fun _ => ?_) (fun h => ?_)
    · refine And.intro (fun _ => ?_) (fun h => by cases h)
      refine And.intro rfl (Exists.intro _ (Exists.intro _ (Exists.intro _ (And.intro (awake_spec _ []) ?_))))
      exact Exists.intro _ (And.intro rfl (And.intro rfl (And.intro (More.refl H) rfl)))
    have hc1 : o.length ≤ 100 := by have h := le_of_gt h; rw [List.length_map] at h; exact h
    refine And.intro (fun h => by cases h) (fun _ => ?_)
    have hc2 : ms.length ≤ 50 := by rw [hm]; exact Nat.zero_le _
    exact nothing_mid H hx0 hy0 hz0 hs hc0 hc1 hc2 bot _
  · skip
    refine And.intro (fun _ => ?_) (fun h => ?_)
    · refine And.intro (fun _ => ?_) (fun h => by cases h)
      refine And.intro (fun _ => ?_) (fun h => by cases h)
      refine And.intro rfl (Exists.intro _ (Exists.intro _ (Exists.intro _ (And.intro (awake_spec _ []) ?_))))
      exact Exists.intro _ (And.intro rfl (And.intro rfl (And.intro (More.refl H) rfl)))
    have hc0 : l.length ≤ 100 := by have h := le_of_gt h; rw [List.length_map] at h; exact h
    refine And.intro (fun _ => ?_) (fun h => ?_)
    · refine And.intro (fun _ => ?_) (fun h => by cases h)
      refine And.intro rfl (Exists.intro _ (Exists.intro _ (Exists.intro _ (And.intro (awake_spec _ []) ?_))))
      exact Exists.intro _ (And.intro rfl (And.intro rfl (And.intro (More.refl H) rfl)))
    have hc1 : o.length ≤ 100 := by have h := le_of_gt h; rw [List.length_map] at h; exact h
    refine And.intro (fun _ => ?_) (fun h => ?_)
    · refine And.intro rfl (Exists.intro _ (Exists.intro _ (Exists.intro _ (And.intro (awake_spec _ []) ?_))))
      exact Exists.intro _ (And.intro rfl (And.intro rfl (And.intro (More.refl H) rfl)))
    have hc2 : ms.length ≤ 50 := by have h := le_of_gt h; rw [List.length_map] at h; exact h
    exact nothing_mid H hx0 hy0 hz0 hs hc0 hc1 hc2 bot _
end Go.Proofs.Ytnajopkaepjncaa

/- What comes in, as the machine's values: rows, lists of rows, marks. -/
namespace Go.Proofs.Ytnajopkaepjncaa
open Am
set_option linter.unusedVariables false

abbrev rowTy : Ty := .pair .str (.pair (.int .u64) (.pair (.int .i64) (.pair .str .unit)))
abbrev rowsTy : Ty := .slice 39 true rowTy
abbrev marksTy : Ty := .slice 23 false (.int .u64)
abbrev listsTy : Ty := .slice 22 false rowsTy
theorem ty22 : tyOf Try.prog 5 22 = some rowsTy := by kernel_rfl
theorem ty33 : tyOf Try.prog 5 33 = some marksTy := by kernel_rfl
theorem ty42 : tyOf Try.prog 6 42 = some listsTy := by kernel_rfl
def toRow (d : rowTy.den) : Row := ⟨d.1.1, d.2.1.1, d.2.2.1.1, d.2.2.2.1.1⟩
theorem toRow_enc (d : rowTy.den) : elt true (rowTy.enc d) = (toRow d).enc := rfl
theorem rows_of (d : rowsTy.den) : ∃ l, IsRows ((rowsTy.enc d).headD .undef) l ∧ l.length ≤ maxLen := by
  cases d with
  | none => exact ⟨[], .inl ⟨rfl, rfl⟩, Nat.zero_le _⟩
  | some p =>
    refine ⟨p.1.1.map toRow, .inr ⟨p.1.2.map fun d => elt true (rowTy.enc d), ?_⟩, ?_⟩
    · show AV.lst 39 _ _ = AV.lst 39 _ _
      rw [List.map_map]; rfl
    · have := p.2
      rw [List.length_map]; omega
end Go.Proofs.Ytnajopkaepjncaa

/- What comes in: rows whose numbers are such; marks. -/
namespace Go.Proofs.Ytnajopkaepjncaa
open Am
set_option linter.unusedVariables false

theorem wf_u64 {n : Int} (h : (Lit.int .u64 n).wf = true) : 0 ≤ n ∧ n ≤ maxU := by
  have h1 : (decide (IntKind.u64.min ≤ n) && decide (n ≤ IntKind.u64.max)) = true := h
  have e1 : IntKind.u64.min = 0 := by decide
  have e2 : IntKind.u64.max = 18446744073709551615 := by decide
  rw [e1, e2] at h1
  simp only [Bool.and_eq_true, decide_eq_true_eq] at h1
  exact h1
theorem rows_seq (d : rowsTy.den) : ∃ l, IsRows ((rowsTy.enc d).headD .undef) l ∧ l.length ≤ maxLen ∧ SeqOk l := by
  cases d with
  | none => exact ⟨[], .inl ⟨rfl, rfl⟩, Nat.zero_le _, fun r h => by cases h⟩
  | some p =>
    refine ⟨p.1.1.map toRow, .inr ⟨p.1.2.map fun d => elt true (rowTy.enc d), ?_⟩, ?_, ?_⟩
    · show AV.lst 39 _ _ = AV.lst 39 _ _
      rw [List.map_map]; rfl
    · have := p.2
      rw [List.length_map]; omega
    · intro r hr
      obtain ⟨d, _, rfl⟩ := List.mem_map.1 hr
      exact (wf_u64 d.2.1.2).2
theorem marks_of (d : marksTy.den) : ∃ ms, IsMarks ((marksTy.enc d).headD .undef) ms ∧ ms.length ≤ maxLen := by
  cases d with
  | none => exact ⟨[], .inl ⟨rfl, rfl⟩, Nat.zero_le _⟩
  | some p =>
    refine ⟨p.1.1.map fun d => d.1, .inr ⟨p.1.2.map fun d => elt false ((Ty.int .u64).enc d), ?_⟩, ?_⟩
    · show AV.lst 23 _ _ = AV.lst 23 _ _
      rw [List.map_map]; rfl
    · have := p.2
      rw [List.length_map]; omega
end Go.Proofs.Ytnajopkaepjncaa
