/- Making the first lists one first changes nothing: the law's own function, whole. -/
import Derived.Test.YtnajopkaepjncaaM5
import Derived.Test.YtnajopkaepjncaaM4
/- Making the first lists one first changes nothing: the law's own function, whole. -/
namespace Go.Proofs.Ytnajopkaepjncaa
open Am
set_option linter.unusedVariables false
set_option maxRecDepth 8000

theorem total_take (ps : List Ls) (n : Nat) : total (ps.take n) ≤ total ps := by
  have h : total ps = total (ps.take n) + total (ps.drop n) := by
    conv => lhs; rw [← List.take_append_drop n ps]
    unfold total; rw [List.map_append, List.sum_append]
  omega
theorem total_drop (ps : List Ls) (n : Nat) : total (ps.take n) + total (ps.drop n) = total ps := by
  conv => rhs; rw [← List.take_append_drop n ps]
  unfold total; rw [List.map_append, List.sum_append]
theorem MergeFirst_spec {x : AV} {ps : List Ls} (hx : IsLists x ps) (hok : ∀ q ∈ ps, q.ok) (n : Int) : GivesE Try.prog K0 10 [x, .int .i64 n] (fun y => y = .bool true) := by
  refine givesE_by Try.func10 rfl rfl rfl fun H => ?_
  obtain ⟨E1, hE1⟩ := many_spec hx hok H []
  cases hm : manyP ps with
  | true =>
    rw [hm] at hE1
    rcases hx with ⟨rfl, rfl⟩ | ⟨sp, rfl⟩
    · refine And.intro rfl (Exists.intro _ (Exists.intro _ (Exists.intro _ (And.intro hE1 ?_))))
      refine And.intro (fun _ => ?_) (fun h => by cases h)
      refine And.intro (fun _ => ?_) (fun h => by cases h)
      refine And.intro (fun _ => ?_) (fun h => by cases h)
      refine And.intro rfl (Exists.intro _ (Exists.intro _ (Exists.intro _ (And.intro (awake_spec _ []) ?_))))
      exact Exists.intro _ (And.intro rfl (And.intro rfl (And.intro (More.app H E1) rfl)))
    · refine And.intro rfl (Exists.intro _ (Exists.intro _ (Exists.intro _ (And.intro hE1 ?_))))
      refine And.intro (fun _ => ?_) (fun h => by cases h)
      refine And.intro (fun _ => ?_) (fun h => by cases h)
      refine And.intro (fun _ => ?_) (fun h => by cases h)
      refine And.intro rfl (Exists.intro _ (Exists.intro _ (Exists.intro _ (And.intro (awake_spec _ []) ?_))))
      exact Exists.intro _ (And.intro rfl (And.intro rfl (And.intro (More.app H E1) rfl)))
  | false =>
    rw [hm] at hE1
    obtain ⟨f1, f2, f3⟩ := few_of hm
    have hfl : ∀ q ∈ ps, q.l.length < 1048576 := fun q hq => by have := f2 q hq; omega
    have hmm1 : More H (H ++ E1) := More.app H E1
    by_cases hn0 : n < 0
    case pos =>
      rcases hx with ⟨rfl, rfl⟩ | ⟨sp, rfl⟩
      · refine And.intro rfl (Exists.intro _ (Exists.intro _ (Exists.intro _ (And.intro hE1 ?_))))
        refine And.intro (fun h => by cases h) (fun _ => ?_)
        refine And.intro (fun _ => ?_) (fun h => absurd hn0 (dec_false (p := n < 0) h))
        refine And.intro (fun _ => ?_) (fun h => by cases h)
        refine And.intro rfl (Exists.intro _ (Exists.intro _ (Exists.intro _ (And.intro (awake_spec _ []) ?_))))
        exact Exists.intro _ (And.intro rfl (And.intro rfl (And.intro (More.app H E1) rfl)))
      · refine And.intro rfl (Exists.intro _ (Exists.intro _ (Exists.intro _ (And.intro hE1 ?_))))
        refine And.intro (fun h => by cases h) (fun _ => ?_)
        refine And.intro (fun _ => ?_) (fun h => absurd hn0 (dec_false (p := n < 0) h))
        refine And.intro (fun _ => ?_) (fun h => by cases h)
        refine And.intro rfl (Exists.intro _ (Exists.intro _ (Exists.intro _ (And.intro (awake_spec _ []) ?_))))
        exact Exists.intro _ (And.intro rfl (And.intro rfl (And.intro (More.app H E1) rfl)))
    case neg =>
    by_cases hnl : n > (ps.length : Int)
    case pos =>
      rcases hx with ⟨rfl, rfl⟩ | ⟨sp, rfl⟩
      · refine And.intro rfl (Exists.intro _ (Exists.intro _ (Exists.intro _ (And.intro hE1 ?_))))
        refine And.intro (fun h => by cases h) (fun _ => ?_)
        refine And.intro (fun h => absurd (dec_true (p := n < 0) h) hn0) (fun _ => ?_)
        refine And.intro (fun _ => ?_) (fun h => absurd hnl (dec_false (p := n > (0 : Int)) h))
        refine And.intro rfl (Exists.intro _ (Exists.intro _ (Exists.intro _ (And.intro (awake_spec _ []) ?_))))
        exact Exists.intro _ (And.intro rfl (And.intro rfl (And.intro (More.app H E1) rfl)))
      · refine And.intro rfl (Exists.intro _ (Exists.intro _ (Exists.intro _ (And.intro hE1 ?_))))
        refine And.intro (fun h => by cases h) (fun _ => ?_)
        refine And.intro (fun h => absurd (dec_true (p := n < 0) h) hn0) (fun _ => ?_)
        refine And.intro (fun _ => ?_) (fun h => by
          exfalso
          have h := dec_false (p := n > ((ps.map Ls.av).length : Int)) h
          rw [List.length_map] at h
          exact h hnl)
        refine And.intro rfl (Exists.intro _ (Exists.intro _ (Exists.intro _ (And.intro (awake_spec _ []) ?_))))
        exact Exists.intro _ (And.intro rfl (And.intro rfl (And.intro (More.app H E1) rfl)))
    case neg =>
    obtain ⟨k, rfl⟩ : ∃ k : Nat, n = (k : Int) := ⟨n.toNat, by omega⟩
    have hk : k ≤ ps.length := by omega
    obtain ⟨y1, E2, hy1, hE2⟩ := made_spec hx hok (by omega) hfl (by omega) (H ++ E1)
    have hmm2 : More H ((H ++ E1) ++ E2) := hmm1.trans (More.app _ E2)
    rcases hy1 with ⟨_, rfl⟩ | ⟨hg, a, ha, rfl⟩
    · rcases hx with ⟨rfl, rfl⟩ | ⟨sp, rfl⟩
      · refine And.intro rfl (Exists.intro _ (Exists.intro _ (Exists.intro _ (And.intro hE1 ?_))))
        refine And.intro (fun h => by cases h) (fun _ => ?_)
        refine And.intro (fun h => absurd (dec_true (p := ((k : Nat) : Int) < 0) h) hn0) (fun _ => ?_)
        refine And.intro (fun h => by
          exfalso
          exact hnl (dec_true (p := ((k : Nat) : Int) > (0 : Int)) h)) (fun _ => ?_)
        refine And.intro rfl (Exists.intro _ (Exists.intro _ (Exists.intro _ (And.intro hE2 ?_))))
        refine And.intro (fun _ => ?_) (fun h => by cases h)
        refine And.intro (fun _ => ?_) (fun h => by cases h)
        refine And.intro rfl (Exists.intro _ (Exists.intro _ (Exists.intro _ (And.intro (awake_spec _ []) ?_))))
        exact Exists.intro _ (And.intro rfl (And.intro rfl (And.intro hmm2 rfl)))
      · refine And.intro rfl (Exists.intro _ (Exists.intro _ (Exists.intro _ (And.intro hE1 ?_))))
        refine And.intro (fun h => by cases h) (fun _ => ?_)
        refine And.intro (fun h => absurd (dec_true (p := ((k : Nat) : Int) < 0) h) hn0) (fun _ => ?_)
        refine And.intro (fun h => by
          exfalso
          have h := dec_true (p := ((k : Nat) : Int) > ((ps.map Ls.av).length : Int)) h
          rw [List.length_map] at h
          exact hnl h) (fun _ => ?_)
        refine And.intro rfl (Exists.intro _ (Exists.intro _ (Exists.intro _ (And.intro hE2 ?_))))
        refine And.intro (fun _ => ?_) (fun h => by cases h)
        refine And.intro (fun _ => ?_) (fun h => by cases h)
        refine And.intro rfl (Exists.intro _ (Exists.intro _ (Exists.intro _ (And.intro (awake_spec _ []) ?_))))
        exact Exists.intro _ (And.intro rfl (And.intro rfl (And.intro hmm2 rfl)))
    · have hal := made_len hg ha
      have htk : ∀ q ∈ ps.take k, q ∈ ps := fun q hq => List.mem_of_mem_take hq
      have hdk : ∀ q ∈ ps.drop k, q ∈ ps := fun q hq => List.mem_of_mem_drop hq
      have htot := total_drop ps k
      have hsome : ∀ (z : AV), IsLists z (ps.take k) → ∃ (s : List Row) (E : Hp), Made1 ((ps.map Ls.l).take k) s ∧ s.length ≤ 1200 ∧ CallsA Try.prog K0 22 [z] ((H ++ E1) ++ E2) [] (.tup [built 39 (s.map Row.enc), .int .i64 0]) (((H ++ E1) ++ E2) ++ E) [] := by
        intro z hz
        obtain ⟨y, E, hy, hE⟩ := made_spec hz (fun q hq => hok q (htk q hq)) (by rw [List.length_take]; omega) (fun q hq => hfl q (htk q hq)) (by omega) ((H ++ E1) ++ E2)
        rcases hy with ⟨⟨q, hq, hqo⟩, _⟩ | ⟨hg2, s, hs, rfl⟩
        · rw [hg q (htk q hq)] at hqo; cases hqo
        · have := made_len hg2 hs
          rw [List.map_take] at hs
          exact ⟨s, E, hs, by omega, hE⟩
      have hlast : ∀ (s : List Row), Made1 ((ps.map Ls.l).take k) s → s.length ≤ total (ps.take k) → ∀ (z : AV) (H2 : Hp), IsLists z (outLs s :: ps.drop k) → ∃ (E : Hp), CallsA Try.prog K0 22 [z] H2 [] (.tup [built 39 (a.map Row.enc), .int .i64 0]) (H2 ++ E) [] := by
        intro s hs hsl z H2 hz
        have hb1 : ∀ q ∈ outLs s :: ps.drop k, q.ok := fun q hq => by
          rcases List.mem_cons.1 hq with rfl | hq
          · exact outLs_ok s
          · exact hok q (hdk q hq)
        have hb2 : ∀ q ∈ outLs s :: ps.drop k, q.l.length < 1048576 := fun q hq => by
          rcases List.mem_cons.1 hq with rfl | hq
          · rw [outLs_l]; omega
          · exact hfl q (hdk q hq)
        have hb3 : total (outLs s :: ps.drop k) < 1000000 := by
          have : total (outLs s :: ps.drop k) = s.length + total (ps.drop k) := by
            unfold total; rw [List.map_cons, List.sum_cons, outLs_l]
          omega
        obtain ⟨y, E, hy, hE⟩ := made_spec hz hb1 (by rw [List.length_cons, List.length_drop]; omega) hb2 hb3 H2
        rcases hy with ⟨⟨q, hq, hqo⟩, _⟩ | ⟨hg2, b, hb, rfl⟩
        · exfalso
          rcases List.mem_cons.1 hq with rfl | hq
          · rw [outLs_l, of_ordA hs.1] at hqo; cases hqo
          · rw [hg q (hdk q hq)] at hqo; cases hqo
        · rw [List.map_cons, outLs_l, List.map_drop] at hb
          rw [made_take (by rw [List.length_map]; exact hk) ha hs hb] at hE
          exact ⟨E, hE⟩
      have hslen : ∀ (s : List Row), Made1 ((ps.map Ls.l).take k) s → s.length ≤ total (ps.take k) := fun s hs => made_len (ps := ps.take k) (fun q hq => hg q (htk q hq)) (by rw [List.map_take]; exact hs)
      have hsame : Gv 19 [built 39 (a.map Row.enc), built 39 (a.map Row.enc)] (.bool true) := same_spec19 (out_isL (built_out a)) (out_isL (built_out a)) (by omega)
      rcases hx with ⟨rfl, rfl⟩ | ⟨sp, rfl⟩
      · obtain rfl : k = 0 := by have := hk; simp at this; exact this
        obtain ⟨s, E3, hs, hsl, hE3⟩ := hsome .nils (.inl ⟨rfl, rfl⟩)
        obtain ⟨E4, hE4⟩ := hlast s hs (hslen s hs) (.lst 22 [built 39 (s.map Row.enc)] []) (((H ++ E1) ++ E2) ++ E3) (.inr ⟨[], by rw [← outLs_av]; rfl⟩)
        obtain ⟨E5, hE5⟩ := hsame ((((H ++ E1) ++ E2) ++ E3) ++ E4) []
        have hmm5 : More H (((((H ++ E1) ++ E2) ++ E3) ++ E4) ++ E5) := ((hmm2.trans (More.app _ E3)).trans (More.app _ E4)).trans (More.app _ E5)
        clear hsome hlast hsame hm
        cases a <;> cases s
        · refine And.intro rfl (Exists.intro _ (Exists.intro _ (Exists.intro _ (And.intro hE1 ?_))))
          refine And.intro (fun h => by cases h) (fun _ => ?_)
          refine And.intro (fun h => absurd (dec_true (p := ((0 : Nat) : Int) < 0) h) hn0) (fun _ => ?_)
          refine And.intro (fun h => by
            exfalso
            exact hnl (dec_true (p := ((0 : Nat) : Int) > (0 : Int)) h)) (fun _ => ?_)
          refine And.intro rfl (Exists.intro _ (Exists.intro _ (Exists.intro _ (And.intro hE2 ?_))))
          refine And.intro (fun h => by cases h) (fun _ => ?_)
          refine Exists.intro _ (And.intro rfl ?_)
          refine And.intro rfl (Exists.intro _ (Exists.intro _ (Exists.intro _ (And.intro hE3 ?_))))
          refine Exists.intro _ (And.intro rfl ?_)
          refine Exists.intro _ (And.intro rfl ?_)
          refine And.intro rfl (And.intro rfl (And.intro (Nat.le_of_ble_eq_true rfl) (And.intro (Nat.le_of_ble_eq_true rfl) (And.intro (Nat.le_of_ble_eq_true rfl) (And.intro rfl (Exists.intro _ (And.intro rfl ?_)))))))
          refine And.intro rfl (Exists.intro _ (Exists.intro _ (Exists.intro _ (And.intro hE4 ?_))))
          refine And.intro (fun _ => ?_) (fun h => by cases h)
          refine And.intro (fun _ => ?_) (fun h => by cases h)
          refine And.intro rfl (Exists.intro _ (Exists.intro _ (Exists.intro _ (And.intro hE5 ?_))))
          refine And.intro (fun _ => ?_) (fun h => by cases h)
          refine And.intro rfl (Exists.intro _ (Exists.intro _ (Exists.intro _ (And.intro (awake_spec _ []) ?_))))
          exact Exists.intro _ (And.intro rfl (And.intro rfl (And.intro hmm5 rfl)))
        · refine And.intro rfl (Exists.intro _ (Exists.intro _ (Exists.intro _ (And.intro hE1 ?_))))
          refine And.intro (fun h => by cases h) (fun _ => ?_)
          refine And.intro (fun h => absurd (dec_true (p := ((0 : Nat) : Int) < 0) h) hn0) (fun _ => ?_)
          refine And.intro (fun h => by
            exfalso
            exact hnl (dec_true (p := ((0 : Nat) : Int) > (0 : Int)) h)) (fun _ => ?_)
          refine And.intro rfl (Exists.intro _ (Exists.intro _ (Exists.intro _ (And.intro hE2 ?_))))
          refine And.intro (fun h => by cases h) (fun _ => ?_)
          refine Exists.intro _ (And.intro rfl ?_)
          refine And.intro rfl (Exists.intro _ (Exists.intro _ (Exists.intro _ (And.intro hE3 ?_))))
          refine Exists.intro _ (And.intro rfl ?_)
          refine Exists.intro _ (And.intro rfl ?_)
          refine And.intro rfl (And.intro rfl (And.intro (Nat.le_of_ble_eq_true rfl) (And.intro (Nat.le_of_ble_eq_true rfl) (And.intro (Nat.le_of_ble_eq_true rfl) (And.intro rfl (Exists.intro _ (And.intro rfl ?_)))))))
          refine And.intro rfl (Exists.intro _ (Exists.intro _ (Exists.intro _ (And.intro hE4 ?_))))
          refine And.intro (fun _ => ?_) (fun h => by cases h)
          refine And.intro (fun _ => ?_) (fun h => by cases h)
          refine And.intro rfl (Exists.intro _ (Exists.intro _ (Exists.intro _ (And.intro hE5 ?_))))
          refine And.intro (fun _ => ?_) (fun h => by cases h)
          refine And.intro rfl (Exists.intro _ (Exists.intro _ (Exists.intro _ (And.intro (awake_spec _ []) ?_))))
          exact Exists.intro _ (And.intro rfl (And.intro rfl (And.intro hmm5 rfl)))
        · refine And.intro rfl (Exists.intro _ (Exists.intro _ (Exists.intro _ (And.intro hE1 ?_))))
          refine And.intro (fun h => by cases h) (fun _ => ?_)
          refine And.intro (fun h => absurd (dec_true (p := ((0 : Nat) : Int) < 0) h) hn0) (fun _ => ?_)
          refine And.intro (fun h => by
            exfalso
            exact hnl (dec_true (p := ((0 : Nat) : Int) > (0 : Int)) h)) (fun _ => ?_)
          refine And.intro rfl (Exists.intro _ (Exists.intro _ (Exists.intro _ (And.intro hE2 ?_))))
          refine And.intro (fun h => by cases h) (fun _ => ?_)
          refine Exists.intro _ (And.intro rfl ?_)
          refine And.intro rfl (Exists.intro _ (Exists.intro _ (Exists.intro _ (And.intro hE3 ?_))))
          refine Exists.intro _ (And.intro rfl ?_)
          refine Exists.intro _ (And.intro rfl ?_)
          refine And.intro rfl (And.intro rfl (And.intro (Nat.le_of_ble_eq_true rfl) (And.intro (Nat.le_of_ble_eq_true rfl) (And.intro (Nat.le_of_ble_eq_true rfl) (And.intro rfl (Exists.intro _ (And.intro rfl ?_)))))))
          refine And.intro rfl (Exists.intro _ (Exists.intro _ (Exists.intro _ (And.intro hE4 ?_))))
          refine And.intro (fun _ => ?_) (fun h => by cases h)
          refine And.intro (fun _ => ?_) (fun h => by cases h)
          refine And.intro rfl (Exists.intro _ (Exists.intro _ (Exists.intro _ (And.intro hE5 ?_))))
          refine And.intro (fun _ => ?_) (fun h => by cases h)
          refine And.intro rfl (Exists.intro _ (Exists.intro _ (Exists.intro _ (And.intro (awake_spec _ []) ?_))))
          exact Exists.intro _ (And.intro rfl (And.intro rfl (And.intro hmm5 rfl)))
        · refine And.intro rfl (Exists.intro _ (Exists.intro _ (Exists.intro _ (And.intro hE1 ?_))))
          refine And.intro (fun h => by cases h) (fun _ => ?_)
          refine And.intro (fun h => absurd (dec_true (p := ((0 : Nat) : Int) < 0) h) hn0) (fun _ => ?_)
          refine And.intro (fun h => by
            exfalso
            exact hnl (dec_true (p := ((0 : Nat) : Int) > (0 : Int)) h)) (fun _ => ?_)
          refine And.intro rfl (Exists.intro _ (Exists.intro _ (Exists.intro _ (And.intro hE2 ?_))))
          refine And.intro (fun h => by cases h) (fun _ => ?_)
          refine Exists.intro _ (And.intro rfl ?_)
          refine And.intro rfl (Exists.intro _ (Exists.intro _ (Exists.intro _ (And.intro hE3 ?_))))
          refine Exists.intro _ (And.intro rfl ?_)
          refine Exists.intro _ (And.intro rfl ?_)
          refine And.intro rfl (And.intro rfl (And.intro (Nat.le_of_ble_eq_true rfl) (And.intro (Nat.le_of_ble_eq_true rfl) (And.intro (Nat.le_of_ble_eq_true rfl) (And.intro rfl (Exists.intro _ (And.intro rfl ?_)))))))
          refine And.intro rfl (Exists.intro _ (Exists.intro _ (Exists.intro _ (And.intro hE4 ?_))))
          refine And.intro (fun _ => ?_) (fun h => by cases h)
          refine And.intro (fun _ => ?_) (fun h => by cases h)
          refine And.intro rfl (Exists.intro _ (Exists.intro _ (Exists.intro _ (And.intro hE5 ?_))))
          refine And.intro (fun _ => ?_) (fun h => by cases h)
          refine And.intro rfl (Exists.intro _ (Exists.intro _ (Exists.intro _ (And.intro (awake_spec _ []) ?_))))
          exact Exists.intro _ (And.intro rfl (And.intro rfl (And.intro hmm5 rfl)))
      · have hkl : k ≤ (ps.map Ls.av).length := by rw [List.length_map]; exact hk
        obtain ⟨s, E3, hs, hsl, hE3⟩ := hsome (.lst 22 ((ps.map Ls.av).take k) ((ps.map Ls.av).drop k ++ sp)) (.inr ⟨_, by rw [List.map_take]⟩)
        obtain ⟨E4, hE4⟩ := hlast s hs (hslen s hs) (.lst 22 (built 39 (s.map Row.enc) :: (ps.map Ls.av).drop k) []) (((H ++ E1) ++ E2) ++ E3) (.inr ⟨[], by rw [← outLs_av, ← List.map_drop]; rfl⟩)
        obtain ⟨E5, hE5⟩ := hsame ((((H ++ E1) ++ E2) ++ E3) ++ E4) []
        have hmm5 : More H (((((H ++ E1) ++ E2) ++ E3) ++ E4) ++ E5) := ((hmm2.trans (More.app _ E3)).trans (More.app _ E4)).trans (More.app _ E5)
        have hd1 : (1 + ((ps.map Ls.av).drop k).length) * 24 ≤ 140737488355328 := by rw [List.length_drop, List.length_map]; omega
        have hd2 : 1 + ((ps.map Ls.av).drop k).length ≤ 140737488355328 := by omega
        clear hsome hlast hsame hm
        cases a <;> cases s
        · refine And.intro rfl (Exists.intro _ (Exists.intro _ (Exists.intro _ (And.intro hE1 ?_))))
          refine And.intro (fun h => by cases h) (fun _ => ?_)
          refine And.intro (fun h => absurd (dec_true (p := ((k : Nat) : Int) < 0) h) hn0) (fun _ => ?_)
          refine And.intro (fun h => by
            exfalso
            have h := dec_true (p := ((k : Nat) : Int) > ((ps.map Ls.av).length : Int)) h
            rw [List.length_map] at h
            exact hnl h) (fun _ => ?_)
          refine And.intro rfl (Exists.intro _ (Exists.intro _ (Exists.intro _ (And.intro hE2 ?_))))
          refine And.intro (fun h => by cases h) (fun _ => ?_)
          refine Exists.intro _ (And.intro (cut_to Try.underlying42 _ _ hkl) ?_)
          refine And.intro rfl (Exists.intro _ (Exists.intro _ (Exists.intro _ (And.intro hE3 ?_))))
          refine Exists.intro _ (And.intro (cut_from Try.underlying42 _ _ hkl) ?_)
          refine Exists.intro _ (And.intro rfl ?_)
          refine And.intro rfl (And.intro rfl (And.intro hd1 (And.intro hd2 (And.intro (Nat.le_of_ble_eq_true rfl) (And.intro rfl (Exists.intro _ (And.intro rfl ?_)))))))
          refine And.intro rfl (Exists.intro _ (Exists.intro _ (Exists.intro _ (And.intro hE4 ?_))))
          refine And.intro (fun _ => ?_) (fun h => by cases h)
          refine And.intro (fun _ => ?_) (fun h => by cases h)
          refine And.intro rfl (Exists.intro _ (Exists.intro _ (Exists.intro _ (And.intro hE5 ?_))))
          refine And.intro (fun _ => ?_) (fun h => by cases h)
          refine And.intro rfl (Exists.intro _ (Exists.intro _ (Exists.intro _ (And.intro (awake_spec _ []) ?_))))
          exact Exists.intro _ (And.intro rfl (And.intro rfl (And.intro hmm5 rfl)))
        · refine And.intro rfl (Exists.intro _ (Exists.intro _ (Exists.intro _ (And.intro hE1 ?_))))
          refine And.intro (fun h => by cases h) (fun _ => ?_)
          refine And.intro (fun h => absurd (dec_true (p := ((k : Nat) : Int) < 0) h) hn0) (fun _ => ?_)
          refine And.intro (fun h => by
            exfalso
            have h := dec_true (p := ((k : Nat) : Int) > ((ps.map Ls.av).length : Int)) h
            rw [List.length_map] at h
            exact hnl h) (fun _ => ?_)
          refine And.intro rfl (Exists.intro _ (Exists.intro _ (Exists.intro _ (And.intro hE2 ?_))))
          refine And.intro (fun h => by cases h) (fun _ => ?_)
          refine Exists.intro _ (And.intro (cut_to Try.underlying42 _ _ hkl) ?_)
          refine And.intro rfl (Exists.intro _ (Exists.intro _ (Exists.intro _ (And.intro hE3 ?_))))
          refine Exists.intro _ (And.intro (cut_from Try.underlying42 _ _ hkl) ?_)
          refine Exists.intro _ (And.intro rfl ?_)
          refine And.intro rfl (And.intro rfl (And.intro hd1 (And.intro hd2 (And.intro (Nat.le_of_ble_eq_true rfl) (And.intro rfl (Exists.intro _ (And.intro rfl ?_)))))))
          refine And.intro rfl (Exists.intro _ (Exists.intro _ (Exists.intro _ (And.intro hE4 ?_))))
          refine And.intro (fun _ => ?_) (fun h => by cases h)
          refine And.intro (fun _ => ?_) (fun h => by cases h)
          refine And.intro rfl (Exists.intro _ (Exists.intro _ (Exists.intro _ (And.intro hE5 ?_))))
          refine And.intro (fun _ => ?_) (fun h => by cases h)
          refine And.intro rfl (Exists.intro _ (Exists.intro _ (Exists.intro _ (And.intro (awake_spec _ []) ?_))))
          exact Exists.intro _ (And.intro rfl (And.intro rfl (And.intro hmm5 rfl)))
        · refine And.intro rfl (Exists.intro _ (Exists.intro _ (Exists.intro _ (And.intro hE1 ?_))))
          refine And.intro (fun h => by cases h) (fun _ => ?_)
          refine And.intro (fun h => absurd (dec_true (p := ((k : Nat) : Int) < 0) h) hn0) (fun _ => ?_)
          refine And.intro (fun h => by
            exfalso
            have h := dec_true (p := ((k : Nat) : Int) > ((ps.map Ls.av).length : Int)) h
            rw [List.length_map] at h
            exact hnl h) (fun _ => ?_)
          refine And.intro rfl (Exists.intro _ (Exists.intro _ (Exists.intro _ (And.intro hE2 ?_))))
          refine And.intro (fun h => by cases h) (fun _ => ?_)
          refine Exists.intro _ (And.intro (cut_to Try.underlying42 _ _ hkl) ?_)
          refine And.intro rfl (Exists.intro _ (Exists.intro _ (Exists.intro _ (And.intro hE3 ?_))))
          refine Exists.intro _ (And.intro (cut_from Try.underlying42 _ _ hkl) ?_)
          refine Exists.intro _ (And.intro rfl ?_)
          refine And.intro rfl (And.intro rfl (And.intro hd1 (And.intro hd2 (And.intro (Nat.le_of_ble_eq_true rfl) (And.intro rfl (Exists.intro _ (And.intro rfl ?_)))))))
          refine And.intro rfl (Exists.intro _ (Exists.intro _ (Exists.intro _ (And.intro hE4 ?_))))
          refine And.intro (fun _ => ?_) (fun h => by cases h)
          refine And.intro (fun _ => ?_) (fun h => by cases h)
          refine And.intro rfl (Exists.intro _ (Exists.intro _ (Exists.intro _ (And.intro hE5 ?_))))
          refine And.intro (fun _ => ?_) (fun h => by cases h)
          refine And.intro rfl (Exists.intro _ (Exists.intro _ (Exists.intro _ (And.intro (awake_spec _ []) ?_))))
          exact Exists.intro _ (And.intro rfl (And.intro rfl (And.intro hmm5 rfl)))
        · refine And.intro rfl (Exists.intro _ (Exists.intro _ (Exists.intro _ (And.intro hE1 ?_))))
          refine And.intro (fun h => by cases h) (fun _ => ?_)
          refine And.intro (fun h => absurd (dec_true (p := ((k : Nat) : Int) < 0) h) hn0) (fun _ => ?_)
          refine And.intro (fun h => by
            exfalso
            have h := dec_true (p := ((k : Nat) : Int) > ((ps.map Ls.av).length : Int)) h
            rw [List.length_map] at h
            exact hnl h) (fun _ => ?_)
          refine And.intro rfl (Exists.intro _ (Exists.intro _ (Exists.intro _ (And.intro hE2 ?_))))
          refine And.intro (fun h => by cases h) (fun _ => ?_)
          refine Exists.intro _ (And.intro (cut_to Try.underlying42 _ _ hkl) ?_)
          refine And.intro rfl (Exists.intro _ (Exists.intro _ (Exists.intro _ (And.intro hE3 ?_))))
          refine Exists.intro _ (And.intro (cut_from Try.underlying42 _ _ hkl) ?_)
          refine Exists.intro _ (And.intro rfl ?_)
          refine And.intro rfl (And.intro rfl (And.intro hd1 (And.intro hd2 (And.intro (Nat.le_of_ble_eq_true rfl) (And.intro rfl (Exists.intro _ (And.intro rfl ?_)))))))
          refine And.intro rfl (Exists.intro _ (Exists.intro _ (Exists.intro _ (And.intro hE4 ?_))))
          refine And.intro (fun _ => ?_) (fun h => by cases h)
          refine And.intro (fun _ => ?_) (fun h => by cases h)
          refine And.intro rfl (Exists.intro _ (Exists.intro _ (Exists.intro _ (And.intro hE5 ?_))))
          refine And.intro (fun _ => ?_) (fun h => by cases h)
          refine And.intro rfl (Exists.intro _ (Exists.intro _ (Exists.intro _ (And.intro (awake_spec _ []) ?_))))
          exact Exists.intro _ (And.intro rfl (And.intro rfl (And.intro hmm5 rfl)))
end Go.Proofs.Ytnajopkaepjncaa

/- What comes in, as the machine's values: rows, lists of rows, marks. -/
namespace Go.Proofs.Ytnajopkaepjncaa
open Am
set_option linter.unusedVariables false

abbrev rowTy : Ty := .pair .str (.pair (.int .u64) (.pair (.int .i64) (.pair .str .unit)))
abbrev rowsTy : Ty := .slice 39 true rowTy
abbrev marksTy : Ty := .slice 23 false (.int .u64)
abbrev listsTy : Ty := .slice 22 false rowsTy
theorem ty22 : tyOf Try.prog 5 22 = some rowsTy := by kernel_rfl
theorem ty33 : tyOf Try.prog 5 33 = some marksTy := by kernel_rfl
theorem ty42 : tyOf Try.prog 6 42 = some listsTy := by kernel_rfl
def toRow (d : rowTy.den) : Row := ⟨d.1.1, d.2.1.1, d.2.2.1.1, d.2.2.2.1.1⟩
theorem toRow_enc (d : rowTy.den) : elt true (rowTy.enc d) = (toRow d).enc := rfl
theorem rows_of (d : rowsTy.den) : ∃ l, IsRows ((rowsTy.enc d).headD .undef) l ∧ l.length ≤ maxLen := by
  cases d with
  | none => exact ⟨[], .inl ⟨rfl, rfl⟩, Nat.zero_le _⟩
  | some p =>
    refine ⟨p.1.1.map toRow, .inr ⟨p.1.2.map fun d => elt true (rowTy.enc d), ?_⟩, ?_⟩
    · show AV.lst 39 _ _ = AV.lst 39 _ _
      rw [List.map_map]; rfl
    · have := p.2
      rw [List.length_map]; omega
end Go.Proofs.Ytnajopkaepjncaa

/- What comes in: rows whose numbers are such; marks. -/
namespace Go.Proofs.Ytnajopkaepjncaa
open Am
set_option linter.unusedVariables false

theorem wf_u64 {n : Int} (h : (Lit.int .u64 n).wf = true) : 0 ≤ n ∧ n ≤ maxU := by
  have h1 : (decide (IntKind.u64.min ≤ n) && decide (n ≤ IntKind.u64.max)) = true := h
  have e1 : IntKind.u64.min = 0 := by decide
  have e2 : IntKind.u64.max = 18446744073709551615 := by decide
  rw [e1, e2] at h1
  simp only [Bool.and_eq_true, decide_eq_true_eq] at h1
  exact h1
theorem rows_seq (d : rowsTy.den) : ∃ l, IsRows ((rowsTy.enc d).headD .undef) l ∧ l.length ≤ maxLen ∧ SeqOk l := by
  cases d with
  | none => exact ⟨[], .inl ⟨rfl, rfl⟩, Nat.zero_le _, fun r h => by cases h⟩
  | some p =>
    refine ⟨p.1.1.map toRow, .inr ⟨p.1.2.map fun d => elt true (rowTy.enc d), ?_⟩, ?_, ?_⟩
    · show AV.lst 39 _ _ = AV.lst 39 _ _
      rw [List.map_map]; rfl
    · have := p.2
      rw [List.length_map]; omega
    · intro r hr
      obtain ⟨d, _, rfl⟩ := List.mem_map.1 hr
      exact (wf_u64 d.2.1.2).2
theorem marks_of (d : marksTy.den) : ∃ ms, IsMarks ((marksTy.enc d).headD .undef) ms ∧ ms.length ≤ maxLen := by
  cases d with
  | none => exact ⟨[], .inl ⟨rfl, rfl⟩, Nat.zero_le _⟩
  | some p =>
    refine ⟨p.1.1.map fun d => d.1, .inr ⟨p.1.2.map fun d => elt false ((Ty.int .u64).enc d), ?_⟩, ?_⟩
    · show AV.lst 23 _ _ = AV.lst 23 _ _
      rw [List.map_map]; rfl
    · have := p.2
      rw [List.length_map]; omega
end Go.Proofs.Ytnajopkaepjncaa

/- What comes in: lists of rows; whole numbers. -/
namespace Go.Proofs.Ytnajopkaepjncaa
open Am
set_option linter.unusedVariables false

def toLs (d : rowsTy.den) : Ls := match d with
  | none => ⟨[], none⟩
  | some p => ⟨p.1.1.map toRow, some (p.1.2.map fun d => elt true (rowTy.enc d))⟩
theorem toLs_av (d : rowsTy.den) : elt false (rowsTy.enc d) = (toLs d).av := by
  cases d with
  | none => rfl
  | some p =>
    show AV.lst 39 _ _ = AV.lst 39 _ _
    show AV.lst 39 (p.1.1.map fun d => elt true (rowTy.enc d)) _ = AV.lst 39 ((p.1.1.map toRow).map Row.enc) _
    rw [List.map_map]; rfl
theorem toLs_ok (d : rowsTy.den) : (toLs d).ok := by
  cases d with
  | none => intro _; rfl
  | some p => intro h; cases h
theorem lists_of (d : listsTy.den) : ∃ ps, IsLists ((listsTy.enc d).headD .undef) ps ∧ (∀ q ∈ ps, q.ok) ∧ ps.length ≤ maxLen := by
  cases d with
  | none => exact ⟨[], .inl ⟨rfl, rfl⟩, fun q h => (by cases h), Nat.zero_le _⟩
  | some p =>
    refine ⟨p.1.1.map toLs, .inr ⟨p.1.2.map fun d => elt false (rowsTy.enc d), ?_⟩, ?_, ?_⟩
    · show AV.lst 22 (p.1.1.map fun d => elt false (rowsTy.enc d)) _ = AV.lst 22 ((p.1.1.map toLs).map Ls.av) _
      rw [List.map_map]
      congr 1
      exact List.map_congr_left fun d _ => toLs_av d
    · intro q hq
      obtain ⟨d, _, rfl⟩ := List.mem_map.1 hq
      exact toLs_ok d
    · have := p.2
      rw [List.length_map]; omega
end Go.Proofs.Ytnajopkaepjncaa
