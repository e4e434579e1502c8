/- Job: walks (GF). Printed by a small program. -/
import Derived.Test.YtecdcnacjlcjoaaDoorM5
import Derived.Test.YtecdcnacjlcjoaaDoorM7
import Derived.Test.YtecdcnacjlcjoaaDoorM6
/- Job: walks (GF). Printed by a small program. -/
namespace Go.Proofs.YtecdcnacjlcjoaaDoor.Job
open Am
set_option linter.unusedVariables false
set_option linter.unusedSimpArgs false
/- freshet/job.lines -/
def s19 (N : Nat) (p0 : Bs) : Option Bs :=
some p0
set_option maxRecDepth 8000 in
set_option maxHeartbeats 4000000 in
theorem w19 (N : Nat) {lo : Nat} {cl : Cl} {H : Hp} (p0 : Bs) (hf : Fit lo cl H) {r : Bs} (h : s19 N p0 = some r) : CallsR Tryd.prog (Kj lo) 19 [.str p0] H (cl) fun x H' cl' => ∃ ida, x = .fn 37 [.ptr ida 0] ∧ H.length ≤ ida ∧ H'[ida]? = some (some ⟨9, [.str r]⟩) ∧ Kp [] H H' ∧ cl = cl' := by
 refine calls_by Tryd.func19 rfl rfl rfl ?_
 unfold s19 at h
 have hk0 : Kp [] H H := Kp.refl H
 refine C_seq ?_
 refine C_reg ?_
 refine oN (.str p0) fun id2541 H2539 hi2542 hH2543 => ?_
 have hb2540 : H2539[id2541]? = some (some ⟨9, [.str p0]⟩) := getL hi2542 hH2543
 have ho2544 := Own.mk2 hf hk0 (Nat.le_of_eq hi2542)
 have hk2545 := kpA hH2543 hk0
 refine oB (.nilfn) ?_
 refine O_nil ?_
 refine keep_to [(1, .ptr id2541 0)] [] rfl rfl ?_
 refine C_seq ?_
 refine C_reg ?_
 refine oP (.fn 37 [.ptr id2541 0]) ?_
 refine oA (.fn 37 [.ptr id2541 0]) ?_
 refine O_nil ?_
 refine keep_to [(2, .fn 37 [.ptr id2541 0])] [] rfl rfl ?_
 refine C_ret ?_
 obtain rfl := Option.some.inj h
 exact ⟨_, rfl, id2541, rfl, ho2544.ge, hb2540, hk2545, rfl⟩
/- freshet/job.head -/
def s21_1 (N : Nat) (p0_0 : Int) (p0_1 : Int) (p0_2 : Int) (p0_3 : Int) (p0_4 : (Sl T38)) (p1 : Int) (p2 : (Sl Bs)) : Option (Bool × T25) :=
cond ((Sl.len p2 : Int) != 2)
 (some (false, (T25.mk p0_0 p0_1 p0_2 p0_3 p0_4)))
 (Option.bind (Sl.get p2 0) fun o2673 =>
Option.bind (lat ([[103, 114, 111, 117, 112, 115], [115, 111, 117, 114, 99, 101, 115], [98, 111, 117, 110, 100], [108, 97, 116, 101]] : List Bs) p1) fun c2675 =>
cond (!((o2673 : Bs) == c2675))
 (some (false, (T25.mk p0_0 p0_1 p0_2 p0_3 p0_4)))
 (Option.bind (Sl.get p2 1) fun o2678 =>
Option.bind (s40 N o2678) fun x2683 =>
cond ((p1 : Int) == 0)
 (cond (x2683.2)
 (cond (decide ((x2683.1 : Int) ≥ 1))
 (some ((decide ((x2683.1 : Int) ≤ 64)), (T25.mk x2683.1 p0_1 p0_2 p0_3 p0_4)))
 (some (false, (T25.mk x2683.1 p0_1 p0_2 p0_3 p0_4))))
 (some (false, (T25.mk x2683.1 p0_1 p0_2 p0_3 p0_4))))
 (cond ((p1 : Int) == 1)
 (cond (x2683.2)
 (cond (decide ((x2683.1 : Int) ≥ 1))
 (some ((decide ((x2683.1 : Int) ≤ 16)), (T25.mk p0_0 x2683.1 p0_2 p0_3 p0_4)))
 (some (false, (T25.mk p0_0 x2683.1 p0_2 p0_3 p0_4))))
 (some (false, (T25.mk p0_0 x2683.1 p0_2 p0_3 p0_4))))
 (cond ((p1 : Int) == 2)
 (some (x2683.2, (T25.mk p0_0 p0_1 x2683.1 p0_3 p0_4)))
 (cond ((p1 : Int) == 3)
 (some (x2683.2, (T25.mk p0_0 p0_1 p0_2 x2683.1 p0_4)))
 (some (x2683.2, (T25.mk p0_0 p0_1 p0_2 p0_3 p0_4))))))))
set_option maxRecDepth 8000 in
set_option maxHeartbeats 4000000 in
theorem w21_1 (N : Nat) {lo : Nat} {cl : Cl} {H : Hp} (p0_0 : Int) (p0_1 : Int) (p0_2 : Int) (p0_3 : Int) (p0_4 : (Sl T38)) (p1 : Int) (p2 : (Sl Bs)) {id0 : Nat} (hb0 : H[id0]? = some (some ⟨25, [.int .i64 p0_0, .int .i64 p0_1, .int .i64 p0_2, .int .i64 p0_3, Sl.enc 38 T38.enc p0_4]⟩)) (hlo_id0 : Nat.ble lo id0 = true) (hcl_id0 : ∀ i o, (i, o) ∈ cl → i ≠ id0) (hf : Fit lo cl H) {r : (Bool × T25)} (h : s21_1 N p0_0 p0_1 p0_2 p0_3 p0_4 p1 p2 = some r) : CallsR Tryd.prog (Kj lo) 21 [.ptr id0 0, .int .i64 p1, Sl.enc 9 AV.str p2] H (clq p0_4 id0 4 cl) fun x H' cl' => x = .bool r.1 ∧ H'[id0]? = some (some ⟨25, [.int .i64 r.2.Groups, .int .i64 r.2.Sources, .int .i64 r.2.Bound, .int .i64 r.2.Late, Sl.enc 38 T38.enc r.2.Ops]⟩) ∧ Kp [id0] H H' ∧ clq r.2.Ops id0 4 cl = cl' := by
 refine calls_by Tryd.func21 rfl rfl rfl ?_
 unfold s21_1 at h
 have hk0 : Kp [id0] H H := Kp.refl H
 refine C_seq ?_
 refine C_reg ?_
 refine oB (.bool false) ?_
 refine O_nil ?_
 refine keep_to [(0, .ptr id0 0), (1, .int .i64 p1), (2, Sl.enc 9 AV.str p2)] [] rfl rfl ?_
 refine C_seq ?_
 refine C_seq ?_
 refine C_draw0 none (m := false) rfl rfl rfl fun b2670 hb2671 => ?_
 refine oM (Sl.enc 9 AV.str p2) ?_
 refine oQ (.int .i64 (Sl.len p2)) (len_sl (f := AV.str) rfl rfl rfl rfl) ?_
 refine oP (.bool ((Sl.len p2 : Int) != 2)) ?_
 rcases Bool.eq_false_or_eq_true ((Sl.len p2 : Int) != 2) with hg2672 | hg2672
 ·replace h := ocond_t h hg2672
  refine O_move (sl' := []) (.bool true) rfl (congrArg (fun b => some (AV.bool b)) hg2672) rfl rfl rfl ?_
  refine O_skip rfl rfl ?_
  refine O_skip rfl rfl ?_
  refine O_skip rfl rfl ?_
  refine O_skip rfl rfl ?_
  refine O_skip rfl rfl ?_
  refine O_skip rfl rfl ?_
  refine O_skip rfl rfl ?_
  refine oP (.bool true) ?_
  refine O_nil ?_
  refine keep_to [(0, .ptr id0 0), (1, .int .i64 p1), (2, Sl.enc 9 AV.str p2), (20, .bool true)] [] rfl rfl ?_
  refine C_true rfl ?_
  refine C_seq ?_
  refine C_reg ?_
  refine oB (.bool false) ?_
  refine O_nil ?_
  refine keep_to [(6, .bool false)] [] rfl rfl ?_
  refine C_ret ?_
  obtain rfl := Option.some.inj h
  exact ⟨_, rfl, rfl, hb0, hk0, rfl⟩
 ·replace h := ocond_f h hg2672
  refine O_move (sl' := []) (.bool false) rfl (congrArg (fun b => some (AV.bool b)) hg2672) rfl rfl rfl ?_
  refine oM (Sl.enc 9 AV.str p2) ?_
  obtain ⟨o2673, hx2674, h⟩ := obind_some h
  refine oQ (.ept [.str o2673] 0) (idx_sl (f := AV.str) rfl rfl rfl hx2674) ?_
  refine oE (.str o2673) ?_
  refine oP (.agg [.str [103, 114, 111, 117, 112, 115], .str [115, 111, 117, 114, 99, 101, 115], .str [98, 111, 117, 110, 100], .str [108, 97, 116, 101]]) ?_
  refine oM (.int .i64 p1) ?_
  obtain ⟨c2675, hx2676, h⟩ := obind_some h
  refine oQ (.str c2675) (idx_arr (l := [[103, 114, 111, 117, 112, 115], [115, 111, 117, 114, 99, 101, 115], [98, 111, 117, 110, 100], [108, 97, 116, 101]]) (f := AV.str) rfl rfl rfl rfl rfl rfl hx2676) ?_
  refine oP (.bool (!((o2673 : Bs) == c2675))) ?_
  refine oP (.bool (!((o2673 : Bs) == c2675))) ?_
  refine O_nil ?_
  refine keep_to [(0, .ptr id0 0), (1, .int .i64 p1), (2, Sl.enc 9 AV.str p2), (20, .bool (!((o2673 : Bs) == c2675)))] [] rfl rfl ?_
  refine C_cond (!((o2673 : Bs) == c2675)) rfl (fun hc2677 => ?_) (fun hc2677 => ?_)
  ·replace h := ocond_t h hc2677
   refine C_seq ?_
   refine C_reg ?_
   refine oB (.bool false) ?_
   refine O_nil ?_
   refine keep_to [(6, .bool false)] [] rfl rfl ?_
   refine C_ret ?_
   obtain rfl := Option.some.inj h
   exact ⟨_, rfl, rfl, hb0, hk0, rfl⟩
  ·replace h := ocond_f h hc2677
   refine C_skip ?_
   refine C_seq ?_
   refine C_reg ?_
   refine oM (Sl.enc 9 AV.str p2) ?_
   obtain ⟨o2678, hx2679, h⟩ := obind_some h
   refine oQ (.ept [.str o2678] 0) (idx_sl (f := AV.str) rfl rfl rfl hx2679) ?_
   refine oE (.str o2678) ?_
   obtain ⟨x2683, hx2684, h⟩ := obind_some h
   refine oK [.str o2678] (w40 N (lo := lo) o2678 (Fit.q (hf.kp hk0) hb0) hx2684) ?_
   rintro _ H2680 _ ⟨rfl, hk2681, rfl⟩
   have hb2685 := hk2681.get0 hb0
   have hk2686 := hk0.trans hk2681
   refine oM (.tup [.int .i64 x2683.1, .bool x2683.2]) ?_
   refine oP (.int .i64 x2683.1) ?_
   refine oP (.bool x2683.2) ?_
   refine oA (.int .i64 x2683.1) ?_
   refine oA (.bool x2683.2) ?_
   refine O_nil ?_
   refine keep_to [(0, .ptr id0 0), (1, .int .i64 p1), (7, .int .i64 x2683.1), (8, .bool x2683.2)] [] rfl rfl ?_
   refine C_seq ?_
   refine C_seq ?_
   refine C_reg ?_
   refine oM (.int .i64 p1) ?_
   refine O_nil ?_
   refine keep_to [(0, .ptr id0 0), (7, .int .i64 x2683.1), (8, .bool x2683.2), (28, .int .i64 p1)] [] rfl rfl ?_
   refine C_block ?_
   refine C_seq ?_
   refine C_reg ?_
   refine oP (.bool ((p1 : Int) == 0)) ?_
   refine oA (.bool ((p1 : Int) == 0)) ?_
   refine O_nil ?_
   refine keep_to [(0, .ptr id0 0), (7, .int .i64 x2683.1), (8, .bool x2683.2), (28, .int .i64 p1), (29, .bool ((p1 : Int) == 0))] [] rfl rfl ?_
   refine C_cond ((p1 : Int) == 0) rfl (fun hc2687 => ?_) (fun hc2687 => ?_)
   ·replace h := ocond_t h hc2687
    refine C_seq ?_
    refine C_reg ?_
    refine oM (.ptr id0 0) ?_
    refine oM (.int .i64 x2683.1) ?_
    refine oP (.ptr id0 0) ?_
    refine oP (.ptr id0 0) ?_
    refine O_store (sl' := []) (cl' := clq p0_4 id0 4 cl) (.int .i64 x2683.1) rfl rfl rfl hlo_id0 hb2685 rfl rfl (fun q h => by cases h) (by intro i o h0; refine .inr ⟨h0, fun e => ?_⟩; rcases mem_clq (s := p0_4) (id := id0) (o := 4) (cl := cl) h0 with ⟨e1, e2⟩ | h1; exact absurd e.2.2 (by rw [e2]; exact Nat.not_lt.2 (Nat.le_of_ble_eq_true rfl)); exact hcl_id0 i o h1 e.1) fun H2688 hH2689 => ?_
    have hb2690 : H2688[id0]? = some (some ⟨25, [.int .i64 x2683.1, .int .i64 p0_1, .int .i64 p0_2, .int .i64 p0_3, Sl.enc 38 T38.enc p0_4]⟩) := getW hH2689 hb2685
    have hk2691 := kpW hH2689 (by simp) hk2686
    refine O_nil ?_
    refine keep_to [(7, .int .i64 x2683.1), (8, .bool x2683.2)] [] rfl rfl ?_
    refine C_seq ?_
    refine C_reg ?_
    refine oM (.bool x2683.2) ?_
    rcases Bool.eq_false_or_eq_true (x2683.2) with hg2692 | hg2692
    ·replace h := ocond_t h hg2692
     refine O_move (sl' := []) (.bool true) rfl (congrArg (fun b => some (AV.bool b)) hg2692) rfl rfl rfl ?_
     refine oM (.int .i64 x2683.1) ?_
     refine oP (.bool (decide ((x2683.1 : Int) ≥ 1))) ?_
     refine oP (.bool (decide ((x2683.1 : Int) ≥ 1))) ?_
     rcases Bool.eq_false_or_eq_true (decide ((x2683.1 : Int) ≥ 1)) with hg2693 | hg2693
     ·replace h := ocond_t h hg2693
      refine O_move (sl' := []) (.bool true) rfl (congrArg (fun b => some (AV.bool b)) hg2693) rfl rfl rfl ?_
      refine oM (.int .i64 x2683.1) ?_
      refine oP (.bool (decide ((x2683.1 : Int) ≤ 64))) ?_
      refine oP (.bool (decide ((x2683.1 : Int) ≤ 64))) ?_
      refine oA (.bool (decide ((x2683.1 : Int) ≤ 64))) ?_
      refine O_nil ?_
      refine keep_to [(6, .bool (decide ((x2683.1 : Int) ≤ 64)))] [] rfl rfl ?_
      refine C_ret ?_
      obtain rfl := Option.some.inj h
      exact ⟨_, rfl, rfl, hb2690, hk2691, rfl⟩
     ·replace h := ocond_f h hg2693
      refine O_move (sl' := []) (.bool false) rfl (congrArg (fun b => some (AV.bool b)) hg2693) rfl rfl rfl ?_
      refine O_skip rfl rfl ?_
      refine O_skip rfl rfl ?_
      refine oP (.bool false) ?_
      refine oA (.bool false) ?_
      refine O_nil ?_
      refine keep_to [(6, .bool false)] [] rfl rfl ?_
      refine C_ret ?_
      obtain rfl := Option.some.inj h
      exact ⟨_, rfl, rfl, hb2690, hk2691, rfl⟩
    ·replace h := ocond_f h hg2692
     refine O_move (sl' := []) (.bool false) rfl (congrArg (fun b => some (AV.bool b)) hg2692) rfl rfl rfl ?_
     refine O_skip rfl rfl ?_
     refine O_skip rfl rfl ?_
     refine oP (.bool false) ?_
     refine oM (.bool false) ?_
     refine O_skip rfl rfl ?_
     refine O_skip rfl rfl ?_
     refine oP (.bool false) ?_
     refine oA (.bool false) ?_
     refine O_nil ?_
     refine keep_to [(6, .bool false)] [] rfl rfl ?_
     refine C_ret ?_
     obtain rfl := Option.some.inj h
     exact ⟨_, rfl, rfl, hb2690, hk2691, rfl⟩
   ·replace h := ocond_f h hc2687
    refine C_seq ?_
    refine C_reg ?_
    refine oP (.bool ((p1 : Int) == 1)) ?_
    refine oA (.bool ((p1 : Int) == 1)) ?_
    refine O_nil ?_
    refine keep_to [(0, .ptr id0 0), (7, .int .i64 x2683.1), (8, .bool x2683.2), (28, .int .i64 p1), (44, .bool ((p1 : Int) == 1))] [] rfl rfl ?_
    refine C_cond ((p1 : Int) == 1) rfl (fun hc2694 => ?_) (fun hc2694 => ?_)
    ·replace h := ocond_t h hc2694
     refine C_seq ?_
     refine C_reg ?_
     refine oM (.ptr id0 0) ?_
     refine oM (.int .i64 x2683.1) ?_
     refine oP (.ptr id0 0) ?_
     refine oP (.ptr id0 1) ?_
     refine O_store (sl' := []) (cl' := clq p0_4 id0 4 cl) (.int .i64 x2683.1) rfl rfl rfl hlo_id0 hb2685 rfl rfl (fun q h => by cases h) (by intro i o h0; refine .inr ⟨h0, fun e => ?_⟩; rcases mem_clq (s := p0_4) (id := id0) (o := 4) (cl := cl) h0 with ⟨e1, e2⟩ | h1; exact absurd e.2.2 (by rw [e2]; exact Nat.not_lt.2 (Nat.le_of_ble_eq_true rfl)); exact hcl_id0 i o h1 e.1) fun H2695 hH2696 => ?_
     have hb2697 : H2695[id0]? = some (some ⟨25, [.int .i64 p0_0, .int .i64 x2683.1, .int .i64 p0_2, .int .i64 p0_3, Sl.enc 38 T38.enc p0_4]⟩) := getW hH2696 hb2685
     have hk2698 := kpW hH2696 (by simp) hk2686
     refine O_nil ?_
     refine keep_to [(7, .int .i64 x2683.1), (8, .bool x2683.2)] [] rfl rfl ?_
     refine C_seq ?_
     refine C_reg ?_
     refine oM (.bool x2683.2) ?_
     rcases Bool.eq_false_or_eq_true (x2683.2) with hg2699 | hg2699
     ·replace h := ocond_t h hg2699
      refine O_move (sl' := []) (.bool true) rfl (congrArg (fun b => some (AV.bool b)) hg2699) rfl rfl rfl ?_
      refine oM (.int .i64 x2683.1) ?_
      refine oP (.bool (decide ((x2683.1 : Int) ≥ 1))) ?_
      refine oP (.bool (decide ((x2683.1 : Int) ≥ 1))) ?_
      rcases Bool.eq_false_or_eq_true (decide ((x2683.1 : Int) ≥ 1)) with hg2700 | hg2700
      ·replace h := ocond_t h hg2700
       refine O_move (sl' := []) (.bool true) rfl (congrArg (fun b => some (AV.bool b)) hg2700) rfl rfl rfl ?_
       refine oM (.int .i64 x2683.1) ?_
       refine oP (.bool (decide ((x2683.1 : Int) ≤ 16))) ?_
       refine oP (.bool (decide ((x2683.1 : Int) ≤ 16))) ?_
       refine oA (.bool (decide ((x2683.1 : Int) ≤ 16))) ?_
       refine O_nil ?_
       refine keep_to [(6, .bool (decide ((x2683.1 : Int) ≤ 16)))] [] rfl rfl ?_
       refine C_ret ?_
       obtain rfl := Option.some.inj h
       exact ⟨_, rfl, rfl, hb2697, hk2698, rfl⟩
      ·replace h := ocond_f h hg2700
       refine O_move (sl' := []) (.bool false) rfl (congrArg (fun b => some (AV.bool b)) hg2700) rfl rfl rfl ?_
       refine O_skip rfl rfl ?_
       refine O_skip rfl rfl ?_
       refine oP (.bool false) ?_
       refine oA (.bool false) ?_
       refine O_nil ?_
       refine keep_to [(6, .bool false)] [] rfl rfl ?_
       refine C_ret ?_
       obtain rfl := Option.some.inj h
       exact ⟨_, rfl, rfl, hb2697, hk2698, rfl⟩
     ·replace h := ocond_f h hg2699
      refine O_move (sl' := []) (.bool false) rfl (congrArg (fun b => some (AV.bool b)) hg2699) rfl rfl rfl ?_
      refine O_skip rfl rfl ?_
      refine O_skip rfl rfl ?_
      refine oP (.bool false) ?_
      refine oM (.bool false) ?_
      refine O_skip rfl rfl ?_
      refine O_skip rfl rfl ?_
      refine oP (.bool false) ?_
      refine oA (.bool false) ?_
      refine O_nil ?_
      refine keep_to [(6, .bool false)] [] rfl rfl ?_
      refine C_ret ?_
      obtain rfl := Option.some.inj h
      exact ⟨_, rfl, rfl, hb2697, hk2698, rfl⟩
    ·replace h := ocond_f h hc2694
     refine C_seq ?_
     refine C_reg ?_
     refine oP (.bool ((p1 : Int) == 2)) ?_
     refine oA (.bool ((p1 : Int) == 2)) ?_
     refine O_nil ?_
     refine keep_to [(0, .ptr id0 0), (7, .int .i64 x2683.1), (8, .bool x2683.2), (28, .int .i64 p1), (59, .bool ((p1 : Int) == 2))] [] rfl rfl ?_
     refine C_cond ((p1 : Int) == 2) rfl (fun hc2701 => ?_) (fun hc2701 => ?_)
     ·replace h := ocond_t h hc2701
      refine C_reg ?_
      refine oM (.ptr id0 0) ?_
      refine oM (.int .i64 x2683.1) ?_
      refine oP (.ptr id0 0) ?_
      refine oP (.ptr id0 2) ?_
      refine O_store (sl' := []) (cl' := clq p0_4 id0 4 cl) (.int .i64 x2683.1) rfl rfl rfl hlo_id0 hb2685 rfl rfl (fun q h => by cases h) (by intro i o h0; refine .inr ⟨h0, fun e => ?_⟩; rcases mem_clq (s := p0_4) (id := id0) (o := 4) (cl := cl) h0 with ⟨e1, e2⟩ | h1; exact absurd e.2.2 (by rw [e2]; exact Nat.not_lt.2 (Nat.le_of_ble_eq_true rfl)); exact hcl_id0 i o h1 e.1) fun H2702 hH2703 => ?_
      have hb2704 : H2702[id0]? = some (some ⟨25, [.int .i64 p0_0, .int .i64 p0_1, .int .i64 x2683.1, .int .i64 p0_3, Sl.enc 38 T38.enc p0_4]⟩) := getW hH2703 hb2685
      have hk2705 := kpW hH2703 (by simp) hk2686
      refine O_nil ?_
      refine keep_to [(8, .bool x2683.2)] [] rfl rfl ?_
      refine C_seq ?_
      refine C_reg ?_
      refine oM (.bool x2683.2) ?_
      refine oA (.bool x2683.2) ?_
      refine O_nil ?_
      refine keep_to [(6, .bool x2683.2)] [] rfl rfl ?_
      refine C_ret ?_
      obtain rfl := Option.some.inj h
      exact ⟨_, rfl, rfl, hb2704, hk2705, rfl⟩
     ·replace h := ocond_f h hc2701
      refine C_seq ?_
      refine C_reg ?_
      refine oP (.bool ((p1 : Int) == 3)) ?_
      refine oA (.bool ((p1 : Int) == 3)) ?_
      refine O_nil ?_
      refine keep_to [(0, .ptr id0 0), (7, .int .i64 x2683.1), (8, .bool x2683.2), (65, .bool ((p1 : Int) == 3))] [] rfl rfl ?_
      refine C_cond ((p1 : Int) == 3) rfl (fun hc2706 => ?_) (fun hc2706 => ?_)
      ·replace h := ocond_t h hc2706
       refine C_reg ?_
       refine oM (.ptr id0 0) ?_
       refine oM (.int .i64 x2683.1) ?_
       refine oP (.ptr id0 0) ?_
       refine oP (.ptr id0 3) ?_
       refine O_store (sl' := []) (cl' := clq p0_4 id0 4 cl) (.int .i64 x2683.1) rfl rfl rfl hlo_id0 hb2685 rfl rfl (fun q h => by cases h) (by intro i o h0; refine .inr ⟨h0, fun e => ?_⟩; rcases mem_clq (s := p0_4) (id := id0) (o := 4) (cl := cl) h0 with ⟨e1, e2⟩ | h1; exact absurd e.2.2 (by rw [e2]; exact Nat.not_lt.2 (Nat.le_of_ble_eq_true rfl)); exact hcl_id0 i o h1 e.1) fun H2707 hH2708 => ?_
       have hb2709 : H2707[id0]? = some (some ⟨25, [.int .i64 p0_0, .int .i64 p0_1, .int .i64 p0_2, .int .i64 x2683.1, Sl.enc 38 T38.enc p0_4]⟩) := getW hH2708 hb2685
       have hk2710 := kpW hH2708 (by simp) hk2686
       refine O_nil ?_
       refine keep_to [(8, .bool x2683.2)] [] rfl rfl ?_
       refine C_seq ?_
       refine C_reg ?_
       refine oM (.bool x2683.2) ?_
       refine oA (.bool x2683.2) ?_
       refine O_nil ?_
       refine keep_to [(6, .bool x2683.2)] [] rfl rfl ?_
       refine C_ret ?_
       obtain rfl := Option.some.inj h
       exact ⟨_, rfl, rfl, hb2709, hk2710, rfl⟩
      ·replace h := ocond_f h hc2706
       refine C_skip ?_
       refine C_seq ?_
       refine C_reg ?_
       refine oM (.bool x2683.2) ?_
       refine oA (.bool x2683.2) ?_
       refine O_nil ?_
       refine keep_to [(6, .bool x2683.2)] [] rfl rfl ?_
       refine C_ret ?_
       obtain rfl := Option.some.inj h
       exact ⟨_, rfl, rfl, hb2685, hk2686, rfl⟩
/- slices.Index[[]string,string] -/
def s41_0 (N : Nat) (p1 : Bs) : Option Int :=
cond ((p1 : Bs) == [])
 (some 0)
 (cond ((p1 : Bs) == [99, 111, 117, 110, 116])
 (some 1)
 (cond ((p1 : Bs) == [115, 117, 109])
 (some 2)
 (cond ((p1 : Bs) == [109, 105, 110])
 (some 3)
 (cond ((p1 : Bs) == [109, 97, 120])
 (some 4)
 (cond ((p1 : Bs) == [108, 97, 115, 116])
 (some 5)
 (cond ((p1 : Bs) == [108, 105, 115, 116])
 (some 6)
 (cond ((p1 : Bs) == [100, 105, 115, 116, 105, 110, 99, 116])
 (some 7)
 (cond ((p1 : Bs) == [115, 112, 105, 110])
 (some 8)
 (some (-1))))))))))
set_option maxRecDepth 8000 in
set_option maxHeartbeats 4000000 in
theorem w41_0 (N : Nat) {lo : Nat} {cl : Cl} {H : Hp} (p1 : Bs) {id0 : Nat} (hb0 : H[id0]? = some (some ⟨55, [.str [], .str [99, 111, 117, 110, 116], .str [115, 117, 109], .str [109, 105, 110], .str [109, 97, 120], .str [108, 97, 115, 116], .str [108, 105, 115, 116], .str [100, 105, 115, 116, 105, 110, 99, 116], .str [115, 112, 105, 110]]⟩)) (hf : Fit lo cl H) {r : Int} (h : s41_0 N p1 = some r) : CallsR Tryd.prog (Kj lo) 41 [.vw 9 id0 0 9, .str p1] H (cl) fun x H' cl' => x = .int .i64 r ∧ Kp [] H H' ∧ cl = cl' := by
 refine calls_by Tryd.func41 rfl rfl rfl ?_
 unfold s41_0 at h
 have hk0 : Kp [] H H := Kp.refl H
 refine C_seq ?_
 refine C_reg ?_
 refine oB (.int .i64 0) ?_
 refine O_nil ?_
 refine keep_to [(0, .vw 9 id0 0 9), (1, .str p1)] [] rfl rfl ?_
 refine C_seq ?_
 refine C_seq ?_
 refine C_reg ?_
 refine oM (.vw 9 id0 0 9) ?_
 refine oP (.int .i64 9) ?_
 refine oC (.int .i64 0) ?_
 refine O_nil ?_
 refine keep_to [(0, .vw 9 id0 0 9), (1, .str p1), (7, .int .i64 9), (8, .int .i64 0)] [] rfl rfl ?_
 refine C_block ?_
 refine C_round ?_
 refine C_seq ?_
 refine C_reg ?_
 refine oP (.bool true) ?_
 refine O_nil ?_
 refine keep_to [(0, .vw 9 id0 0 9), (1, .str p1), (7, .int .i64 9), (8, .int .i64 0), (9, .bool true)] [] rfl rfl ?_
 refine C_seq ?_
 refine C_true rfl ?_
 refine C_skip ?_
 refine C_seq ?_
 refine C_block ?_
 refine C_seq ?_
 refine C_reg ?_
 refine oM (.int .i64 0) ?_
 refine oA (.int .i64 0) ?_
 refine O_nil ?_
 refine keep_to [(0, .vw 9 id0 0 9), (1, .str p1), (5, .int .i64 0), (7, .int .i64 9), (8, .int .i64 0)] [] rfl rfl ?_
 refine C_seq ?_
 refine C_reg ?_
 refine oM (.str p1) ?_
 refine oM (.vw 9 id0 0 9) ?_
 refine oM (.int .i64 0) ?_
 refine oP (.ptr id0 0) ?_
 refine oL (.str []) hb0 ?_
 refine oP (.bool ((p1 : Bs) == [])) ?_
 refine O_nil ?_
 refine keep_to [(0, .vw 9 id0 0 9), (1, .str p1), (5, .int .i64 0), (7, .int .i64 9), (8, .int .i64 0), (16, .bool ((p1 : Bs) == []))] [] rfl rfl ?_
 refine C_cond ((p1 : Bs) == []) rfl (fun hc2787 => ?_) (fun hc2787 => ?_)
 ·replace h := ocond_t h hc2787
  refine C_seq ?_
  refine C_reg ?_
  refine oM (.int .i64 0) ?_
  refine oA (.int .i64 0) ?_
  refine O_nil ?_
  refine keep_to [(4, .int .i64 0)] [] rfl rfl ?_
  refine C_ret ?_
  obtain rfl := Option.some.inj h
  exact ⟨_, rfl, rfl, hk0, rfl⟩
 ·replace h := ocond_f h hc2787
  refine C_skip ?_
  refine C_reg ?_
  refine oP (.int .i64 1) ?_
  refine oM (.int .i64 1) ?_
  refine O_nil ?_
  refine keep_to [(0, .vw 9 id0 0 9), (1, .str p1), (7, .int .i64 9), (8, .int .i64 1)] [] rfl rfl ?_
  refine C_round ?_
  refine C_seq ?_
  refine C_reg ?_
  refine oP (.bool true) ?_
  refine O_nil ?_
  refine keep_to [(0, .vw 9 id0 0 9), (1, .str p1), (7, .int .i64 9), (8, .int .i64 1), (9, .bool true)] [] rfl rfl ?_
  refine C_seq ?_
  refine C_true rfl ?_
  refine C_skip ?_
  refine C_seq ?_
  refine C_block ?_
  refine C_seq ?_
  refine C_reg ?_
  refine oM (.int .i64 1) ?_
  refine oA (.int .i64 1) ?_
  refine O_nil ?_
  refine keep_to [(0, .vw 9 id0 0 9), (1, .str p1), (5, .int .i64 1), (7, .int .i64 9), (8, .int .i64 1)] [] rfl rfl ?_
  refine C_seq ?_
  refine C_reg ?_
  refine oM (.str p1) ?_
  refine oM (.vw 9 id0 0 9) ?_
  refine oM (.int .i64 1) ?_
  refine oP (.ptr id0 1) ?_
  refine oL (.str [99, 111, 117, 110, 116]) hb0 ?_
  refine oP (.bool ((p1 : Bs) == [99, 111, 117, 110, 116])) ?_
  refine O_nil ?_
  refine keep_to [(0, .vw 9 id0 0 9), (1, .str p1), (5, .int .i64 1), (7, .int .i64 9), (8, .int .i64 1), (16, .bool ((p1 : Bs) == [99, 111, 117, 110, 116]))] [] rfl rfl ?_
  refine C_cond ((p1 : Bs) == [99, 111, 117, 110, 116]) rfl (fun hc2788 => ?_) (fun hc2788 => ?_)
  ·replace h := ocond_t h hc2788
   refine C_seq ?_
   refine C_reg ?_
   refine oM (.int .i64 1) ?_
   refine oA (.int .i64 1) ?_
   refine O_nil ?_
   refine keep_to [(4, .int .i64 1)] [] rfl rfl ?_
   refine C_ret ?_
   obtain rfl := Option.some.inj h
   exact ⟨_, rfl, rfl, hk0, rfl⟩
  ·replace h := ocond_f h hc2788
   refine C_skip ?_
   refine C_reg ?_
   refine oP (.int .i64 2) ?_
   refine oM (.int .i64 2) ?_
   refine O_nil ?_
   refine keep_to [(0, .vw 9 id0 0 9), (1, .str p1), (7, .int .i64 9), (8, .int .i64 2)] [] rfl rfl ?_
   refine C_round ?_
   refine C_seq ?_
   refine C_reg ?_
   refine oP (.bool true) ?_
   refine O_nil ?_
   refine keep_to [(0, .vw 9 id0 0 9), (1, .str p1), (7, .int .i64 9), (8, .int .i64 2), (9, .bool true)] [] rfl rfl ?_
   refine C_seq ?_
   refine C_true rfl ?_
   refine C_skip ?_
   refine C_seq ?_
   refine C_block ?_
   refine C_seq ?_
   refine C_reg ?_
   refine oM (.int .i64 2) ?_
   refine oA (.int .i64 2) ?_
   refine O_nil ?_
   refine keep_to [(0, .vw 9 id0 0 9), (1, .str p1), (5, .int .i64 2), (7, .int .i64 9), (8, .int .i64 2)] [] rfl rfl ?_
   refine C_seq ?_
   refine C_reg ?_
   refine oM (.str p1) ?_
   refine oM (.vw 9 id0 0 9) ?_
   refine oM (.int .i64 2) ?_
   refine oP (.ptr id0 2) ?_
   refine oL (.str [115, 117, 109]) hb0 ?_
   refine oP (.bool ((p1 : Bs) == [115, 117, 109])) ?_
   refine O_nil ?_
   refine keep_to [(0, .vw 9 id0 0 9), (1, .str p1), (5, .int .i64 2), (7, .int .i64 9), (8, .int .i64 2), (16, .bool ((p1 : Bs) == [115, 117, 109]))] [] rfl rfl ?_
   refine C_cond ((p1 : Bs) == [115, 117, 109]) rfl (fun hc2789 => ?_) (fun hc2789 => ?_)
   ·replace h := ocond_t h hc2789
    refine C_seq ?_
    refine C_reg ?_
    refine oM (.int .i64 2) ?_
    refine oA (.int .i64 2) ?_
    refine O_nil ?_
    refine keep_to [(4, .int .i64 2)] [] rfl rfl ?_
    refine C_ret ?_
    obtain rfl := Option.some.inj h
    exact ⟨_, rfl, rfl, hk0, rfl⟩
   ·replace h := ocond_f h hc2789
    refine C_skip ?_
    refine C_reg ?_
    refine oP (.int .i64 3) ?_
    refine oM (.int .i64 3) ?_
    refine O_nil ?_
    refine keep_to [(0, .vw 9 id0 0 9), (1, .str p1), (7, .int .i64 9), (8, .int .i64 3)] [] rfl rfl ?_
    refine C_round ?_
    refine C_seq ?_
    refine C_reg ?_
    refine oP (.bool true) ?_
    refine O_nil ?_
    refine keep_to [(0, .vw 9 id0 0 9), (1, .str p1), (7, .int .i64 9), (8, .int .i64 3), (9, .bool true)] [] rfl rfl ?_
    refine C_seq ?_
    refine C_true rfl ?_
    refine C_skip ?_
    refine C_seq ?_
    refine C_block ?_
    refine C_seq ?_
    refine C_reg ?_
    refine oM (.int .i64 3) ?_
    refine oA (.int .i64 3) ?_
    refine O_nil ?_
    refine keep_to [(0, .vw 9 id0 0 9), (1, .str p1), (5, .int .i64 3), (7, .int .i64 9), (8, .int .i64 3)] [] rfl rfl ?_
    refine C_seq ?_
    refine C_reg ?_
    refine oM (.str p1) ?_
    refine oM (.vw 9 id0 0 9) ?_
    refine oM (.int .i64 3) ?_
    refine oP (.ptr id0 3) ?_
    refine oL (.str [109, 105, 110]) hb0 ?_
    refine oP (.bool ((p1 : Bs) == [109, 105, 110])) ?_
    refine O_nil ?_
    refine keep_to [(0, .vw 9 id0 0 9), (1, .str p1), (5, .int .i64 3), (7, .int .i64 9), (8, .int .i64 3), (16, .bool ((p1 : Bs) == [109, 105, 110]))] [] rfl rfl ?_
    refine C_cond ((p1 : Bs) == [109, 105, 110]) rfl (fun hc2790 => ?_) (fun hc2790 => ?_)
    ·replace h := ocond_t h hc2790
     refine C_seq ?_
     refine C_reg ?_
     refine oM (.int .i64 3) ?_
     refine oA (.int .i64 3) ?_
     refine O_nil ?_
     refine keep_to [(4, .int .i64 3)] [] rfl rfl ?_
     refine C_ret ?_
     obtain rfl := Option.some.inj h
     exact ⟨_, rfl, rfl, hk0, rfl⟩
    ·replace h := ocond_f h hc2790
     refine C_skip ?_
     refine C_reg ?_
     refine oP (.int .i64 4) ?_
     refine oM (.int .i64 4) ?_
     refine O_nil ?_
     refine keep_to [(0, .vw 9 id0 0 9), (1, .str p1), (7, .int .i64 9), (8, .int .i64 4)] [] rfl rfl ?_
     refine C_round ?_
     refine C_seq ?_
     refine C_reg ?_
     refine oP (.bool true) ?_
     refine O_nil ?_
     refine keep_to [(0, .vw 9 id0 0 9), (1, .str p1), (7, .int .i64 9), (8, .int .i64 4), (9, .bool true)] [] rfl rfl ?_
     refine C_seq ?_
     refine C_true rfl ?_
     refine C_skip ?_
     refine C_seq ?_
     refine C_block ?_
     refine C_seq ?_
     refine C_reg ?_
     refine oM (.int .i64 4) ?_
     refine oA (.int .i64 4) ?_
     refine O_nil ?_
     refine keep_to [(0, .vw 9 id0 0 9), (1, .str p1), (5, .int .i64 4), (7, .int .i64 9), (8, .int .i64 4)] [] rfl rfl ?_
     refine C_seq ?_
     refine C_reg ?_
     refine oM (.str p1) ?_
     refine oM (.vw 9 id0 0 9) ?_
     refine oM (.int .i64 4) ?_
     refine oP (.ptr id0 4) ?_
     refine oL (.str [109, 97, 120]) hb0 ?_
     refine oP (.bool ((p1 : Bs) == [109, 97, 120])) ?_
     refine O_nil ?_
     refine keep_to [(0, .vw 9 id0 0 9), (1, .str p1), (5, .int .i64 4), (7, .int .i64 9), (8, .int .i64 4), (16, .bool ((p1 : Bs) == [109, 97, 120]))] [] rfl rfl ?_
     refine C_cond ((p1 : Bs) == [109, 97, 120]) rfl (fun hc2791 => ?_) (fun hc2791 => ?_)
     ·replace h := ocond_t h hc2791
      refine C_seq ?_
      refine C_reg ?_
      refine oM (.int .i64 4) ?_
      refine oA (.int .i64 4) ?_
      refine O_nil ?_
      refine keep_to [(4, .int .i64 4)] [] rfl rfl ?_
      refine C_ret ?_
      obtain rfl := Option.some.inj h
      exact ⟨_, rfl, rfl, hk0, rfl⟩
     ·replace h := ocond_f h hc2791
      refine C_skip ?_
      refine C_reg ?_
      refine oP (.int .i64 5) ?_
      refine oM (.int .i64 5) ?_
      refine O_nil ?_
      refine keep_to [(0, .vw 9 id0 0 9), (1, .str p1), (7, .int .i64 9), (8, .int .i64 5)] [] rfl rfl ?_
      refine C_round ?_
      refine C_seq ?_
      refine C_reg ?_
      refine oP (.bool true) ?_
      refine O_nil ?_
      refine keep_to [(0, .vw 9 id0 0 9), (1, .str p1), (7, .int .i64 9), (8, .int .i64 5), (9, .bool true)] [] rfl rfl ?_
      refine C_seq ?_
      refine C_true rfl ?_
      refine C_skip ?_
      refine C_seq ?_
      refine C_block ?_
      refine C_seq ?_
      refine C_reg ?_
      refine oM (.int .i64 5) ?_
      refine oA (.int .i64 5) ?_
      refine O_nil ?_
      refine keep_to [(0, .vw 9 id0 0 9), (1, .str p1), (5, .int .i64 5), (7, .int .i64 9), (8, .int .i64 5)] [] rfl rfl ?_
      refine C_seq ?_
      refine C_reg ?_
      refine oM (.str p1) ?_
      refine oM (.vw 9 id0 0 9) ?_
      refine oM (.int .i64 5) ?_
      refine oP (.ptr id0 5) ?_
      refine oL (.str [108, 97, 115, 116]) hb0 ?_
      refine oP (.bool ((p1 : Bs) == [108, 97, 115, 116])) ?_
      refine O_nil ?_
      refine keep_to [(0, .vw 9 id0 0 9), (1, .str p1), (5, .int .i64 5), (7, .int .i64 9), (8, .int .i64 5), (16, .bool ((p1 : Bs) == [108, 97, 115, 116]))] [] rfl rfl ?_
      refine C_cond ((p1 : Bs) == [108, 97, 115, 116]) rfl (fun hc2792 => ?_) (fun hc2792 => ?_)
      ·replace h := ocond_t h hc2792
       refine C_seq ?_
       refine C_reg ?_
       refine oM (.int .i64 5) ?_
       refine oA (.int .i64 5) ?_
       refine O_nil ?_
       refine keep_to [(4, .int .i64 5)] [] rfl rfl ?_
       refine C_ret ?_
       obtain rfl := Option.some.inj h
       exact ⟨_, rfl, rfl, hk0, rfl⟩
      ·replace h := ocond_f h hc2792
       refine C_skip ?_
       refine C_reg ?_
       refine oP (.int .i64 6) ?_
       refine oM (.int .i64 6) ?_
       refine O_nil ?_
       refine keep_to [(0, .vw 9 id0 0 9), (1, .str p1), (7, .int .i64 9), (8, .int .i64 6)] [] rfl rfl ?_
       refine C_round ?_
       refine C_seq ?_
       refine C_reg ?_
       refine oP (.bool true) ?_
       refine O_nil ?_
       refine keep_to [(0, .vw 9 id0 0 9), (1, .str p1), (7, .int .i64 9), (8, .int .i64 6), (9, .bool true)] [] rfl rfl ?_
       refine C_seq ?_
       refine C_true rfl ?_
       refine C_skip ?_
       refine C_seq ?_
       refine C_block ?_
       refine C_seq ?_
       refine C_reg ?_
       refine oM (.int .i64 6) ?_
       refine oA (.int .i64 6) ?_
       refine O_nil ?_
       refine keep_to [(0, .vw 9 id0 0 9), (1, .str p1), (5, .int .i64 6), (7, .int .i64 9), (8, .int .i64 6)] [] rfl rfl ?_
       refine C_seq ?_
       refine C_reg ?_
       refine oM (.str p1) ?_
       refine oM (.vw 9 id0 0 9) ?_
       refine oM (.int .i64 6) ?_
       refine oP (.ptr id0 6) ?_
       refine oL (.str [108, 105, 115, 116]) hb0 ?_
       refine oP (.bool ((p1 : Bs) == [108, 105, 115, 116])) ?_
       refine O_nil ?_
       refine keep_to [(0, .vw 9 id0 0 9), (1, .str p1), (5, .int .i64 6), (7, .int .i64 9), (8, .int .i64 6), (16, .bool ((p1 : Bs) == [108, 105, 115, 116]))] [] rfl rfl ?_
       refine C_cond ((p1 : Bs) == [108, 105, 115, 116]) rfl (fun hc2793 => ?_) (fun hc2793 => ?_)
       ·replace h := ocond_t h hc2793
        refine C_seq ?_
        refine C_reg ?_
        refine oM (.int .i64 6) ?_
        refine oA (.int .i64 6) ?_
        refine O_nil ?_
        refine keep_to [(4, .int .i64 6)] [] rfl rfl ?_
        refine C_ret ?_
        obtain rfl := Option.some.inj h
        exact ⟨_, rfl, rfl, hk0, rfl⟩
       ·replace h := ocond_f h hc2793
        refine C_skip ?_
        refine C_reg ?_
        refine oP (.int .i64 7) ?_
        refine oM (.int .i64 7) ?_
        refine O_nil ?_
        refine keep_to [(0, .vw 9 id0 0 9), (1, .str p1), (7, .int .i64 9), (8, .int .i64 7)] [] rfl rfl ?_
        refine C_round ?_
        refine C_seq ?_
        refine C_reg ?_
        refine oP (.bool true) ?_
        refine O_nil ?_
        refine keep_to [(0, .vw 9 id0 0 9), (1, .str p1), (7, .int .i64 9), (8, .int .i64 7), (9, .bool true)] [] rfl rfl ?_
        refine C_seq ?_
        refine C_true rfl ?_
        refine C_skip ?_
        refine C_seq ?_
        refine C_block ?_
        refine C_seq ?_
        refine C_reg ?_
        refine oM (.int .i64 7) ?_
        refine oA (.int .i64 7) ?_
        refine O_nil ?_
        refine keep_to [(0, .vw 9 id0 0 9), (1, .str p1), (5, .int .i64 7), (7, .int .i64 9), (8, .int .i64 7)] [] rfl rfl ?_
        refine C_seq ?_
        refine C_reg ?_
        refine oM (.str p1) ?_
        refine oM (.vw 9 id0 0 9) ?_
        refine oM (.int .i64 7) ?_
        refine oP (.ptr id0 7) ?_
        refine oL (.str [100, 105, 115, 116, 105, 110, 99, 116]) hb0 ?_
        refine oP (.bool ((p1 : Bs) == [100, 105, 115, 116, 105, 110, 99, 116])) ?_
        refine O_nil ?_
        refine keep_to [(0, .vw 9 id0 0 9), (1, .str p1), (5, .int .i64 7), (7, .int .i64 9), (8, .int .i64 7), (16, .bool ((p1 : Bs) == [100, 105, 115, 116, 105, 110, 99, 116]))] [] rfl rfl ?_
        refine C_cond ((p1 : Bs) == [100, 105, 115, 116, 105, 110, 99, 116]) rfl (fun hc2794 => ?_) (fun hc2794 => ?_)
        ·replace h := ocond_t h hc2794
         refine C_seq ?_
         refine C_reg ?_
         refine oM (.int .i64 7) ?_
         refine oA (.int .i64 7) ?_
         refine O_nil ?_
         refine keep_to [(4, .int .i64 7)] [] rfl rfl ?_
         refine C_ret ?_
         obtain rfl := Option.some.inj h
         exact ⟨_, rfl, rfl, hk0, rfl⟩
        ·replace h := ocond_f h hc2794
         refine C_skip ?_
         refine C_reg ?_
         refine oP (.int .i64 8) ?_
         refine oM (.int .i64 8) ?_
         refine O_nil ?_
         refine keep_to [(0, .vw 9 id0 0 9), (1, .str p1), (7, .int .i64 9), (8, .int .i64 8)] [] rfl rfl ?_
         refine C_round ?_
         refine C_seq ?_
         refine C_reg ?_
         refine oP (.bool true) ?_
         refine O_nil ?_
         refine keep_to [(0, .vw 9 id0 0 9), (1, .str p1), (7, .int .i64 9), (8, .int .i64 8), (9, .bool true)] [] rfl rfl ?_
         refine C_seq ?_
         refine C_true rfl ?_
         refine C_skip ?_
         refine C_seq ?_
         refine C_block ?_
         refine C_seq ?_
         refine C_reg ?_
         refine oM (.int .i64 8) ?_
         refine oA (.int .i64 8) ?_
         refine O_nil ?_
         refine keep_to [(0, .vw 9 id0 0 9), (1, .str p1), (5, .int .i64 8), (7, .int .i64 9), (8, .int .i64 8)] [] rfl rfl ?_
         refine C_seq ?_
         refine C_reg ?_
         refine oM (.str p1) ?_
         refine oM (.vw 9 id0 0 9) ?_
         refine oM (.int .i64 8) ?_
         refine oP (.ptr id0 8) ?_
         refine oL (.str [115, 112, 105, 110]) hb0 ?_
         refine oP (.bool ((p1 : Bs) == [115, 112, 105, 110])) ?_
         refine O_nil ?_
         refine keep_to [(0, .vw 9 id0 0 9), (1, .str p1), (5, .int .i64 8), (7, .int .i64 9), (8, .int .i64 8), (16, .bool ((p1 : Bs) == [115, 112, 105, 110]))] [] rfl rfl ?_
         refine C_cond ((p1 : Bs) == [115, 112, 105, 110]) rfl (fun hc2795 => ?_) (fun hc2795 => ?_)
         ·replace h := ocond_t h hc2795
          refine C_seq ?_
          refine C_reg ?_
          refine oM (.int .i64 8) ?_
          refine oA (.int .i64 8) ?_
          refine O_nil ?_
          refine keep_to [(4, .int .i64 8)] [] rfl rfl ?_
          refine C_ret ?_
          obtain rfl := Option.some.inj h
          exact ⟨_, rfl, rfl, hk0, rfl⟩
         ·replace h := ocond_f h hc2795
          refine C_skip ?_
          refine C_reg ?_
          refine oP (.int .i64 9) ?_
          refine oM (.int .i64 9) ?_
          refine O_nil ?_
          refine keep_to [(0, .vw 9 id0 0 9), (1, .str p1), (7, .int .i64 9), (8, .int .i64 9)] [] rfl rfl ?_
          refine C_round ?_
          refine C_seq ?_
          refine C_reg ?_
          refine oP (.bool false) ?_
          refine O_nil ?_
          refine keep_to [(0, .vw 9 id0 0 9), (1, .str p1), (7, .int .i64 9), (8, .int .i64 9), (9, .bool false)] [] rfl rfl ?_
          refine C_seq ?_
          refine C_false rfl ?_
          refine C_exit ?_
          refine C_seq ?_
          refine C_reg ?_
          refine oB (.int .i64 (-1)) ?_
          refine O_nil ?_
          refine keep_to [(4, .int .i64 (-1))] [] rfl rfl ?_
          refine C_ret ?_
          obtain rfl := Option.some.inj h
          exact ⟨_, rfl, rfl, hk0, rfl⟩
/- slices.Index[[]string,string] -/
def s41_1 (N : Nat) (p1 : Bs) : Option Int :=
cond ((p1 : Bs) == [])
 (some 0)
 (cond ((p1 : Bs) == [116, 117, 109, 98, 108, 105, 110, 103])
 (some 1)
 (cond ((p1 : Bs) == [115, 108, 105, 100, 105, 110, 103])
 (some 2)
 (cond ((p1 : Bs) == [115, 101, 115, 115, 105, 111, 110])
 (some 3)
 (some (-1)))))
set_option maxRecDepth 8000 in
set_option maxHeartbeats 4000000 in
theorem w41_1 (N : Nat) {lo : Nat} {cl : Cl} {H : Hp} (p1 : Bs) {id0 : Nat} (hb0 : H[id0]? = some (some ⟨56, [.str [], .str [116, 117, 109, 98, 108, 105, 110, 103], .str [115, 108, 105, 100, 105, 110, 103], .str [115, 101, 115, 115, 105, 111, 110]]⟩)) (hf : Fit lo cl H) {r : Int} (h : s41_1 N p1 = some r) : CallsR Tryd.prog (Kj lo) 41 [.vw 9 id0 0 4, .str p1] H (cl) fun x H' cl' => x = .int .i64 r ∧ Kp [] H H' ∧ cl = cl' := by
 refine calls_by Tryd.func41 rfl rfl rfl ?_
 unfold s41_1 at h
 have hk0 : Kp [] H H := Kp.refl H
 refine C_seq ?_
 refine C_reg ?_
 refine oB (.int .i64 0) ?_
 refine O_nil ?_
 refine keep_to [(0, .vw 9 id0 0 4), (1, .str p1)] [] rfl rfl ?_
 refine C_seq ?_
 refine C_seq ?_
 refine C_reg ?_
 refine oM (.vw 9 id0 0 4) ?_
 refine oP (.int .i64 4) ?_
 refine oC (.int .i64 0) ?_
 refine O_nil ?_
 refine keep_to [(0, .vw 9 id0 0 4), (1, .str p1), (7, .int .i64 4), (8, .int .i64 0)] [] rfl rfl ?_
 refine C_block ?_
 refine C_round ?_
 refine C_seq ?_
 refine C_reg ?_
 refine oP (.bool true) ?_
 refine O_nil ?_
 refine keep_to [(0, .vw 9 id0 0 4), (1, .str p1), (7, .int .i64 4), (8, .int .i64 0), (9, .bool true)] [] rfl rfl ?_
 refine C_seq ?_
 refine C_true rfl ?_
 refine C_skip ?_
 refine C_seq ?_
 refine C_block ?_
 refine C_seq ?_
 refine C_reg ?_
 refine oM (.int .i64 0) ?_
 refine oA (.int .i64 0) ?_
 refine O_nil ?_
 refine keep_to [(0, .vw 9 id0 0 4), (1, .str p1), (5, .int .i64 0), (7, .int .i64 4), (8, .int .i64 0)] [] rfl rfl ?_
 refine C_seq ?_
 refine C_reg ?_
 refine oM (.str p1) ?_
 refine oM (.vw 9 id0 0 4) ?_
 refine oM (.int .i64 0) ?_
 refine oP (.ptr id0 0) ?_
 refine oL (.str []) hb0 ?_
 refine oP (.bool ((p1 : Bs) == [])) ?_
 refine O_nil ?_
 refine keep_to [(0, .vw 9 id0 0 4), (1, .str p1), (5, .int .i64 0), (7, .int .i64 4), (8, .int .i64 0), (16, .bool ((p1 : Bs) == []))] [] rfl rfl ?_
 refine C_cond ((p1 : Bs) == []) rfl (fun hc2812 => ?_) (fun hc2812 => ?_)
 ·replace h := ocond_t h hc2812
  refine C_seq ?_
  refine C_reg ?_
  refine oM (.int .i64 0) ?_
  refine oA (.int .i64 0) ?_
  refine O_nil ?_
  refine keep_to [(4, .int .i64 0)] [] rfl rfl ?_
  refine C_ret ?_
  obtain rfl := Option.some.inj h
  exact ⟨_, rfl, rfl, hk0, rfl⟩
 ·replace h := ocond_f h hc2812
  refine C_skip ?_
  refine C_reg ?_
  refine oP (.int .i64 1) ?_
  refine oM (.int .i64 1) ?_
  refine O_nil ?_
  refine keep_to [(0, .vw 9 id0 0 4), (1, .str p1), (7, .int .i64 4), (8, .int .i64 1)] [] rfl rfl ?_
  refine C_round ?_
  refine C_seq ?_
  refine C_reg ?_
  refine oP (.bool true) ?_
  refine O_nil ?_
  refine keep_to [(0, .vw 9 id0 0 4), (1, .str p1), (7, .int .i64 4), (8, .int .i64 1), (9, .bool true)] [] rfl rfl ?_
  refine C_seq ?_
  refine C_true rfl ?_
  refine C_skip ?_
  refine C_seq ?_
  refine C_block ?_
  refine C_seq ?_
  refine C_reg ?_
  refine oM (.int .i64 1) ?_
  refine oA (.int .i64 1) ?_
  refine O_nil ?_
  refine keep_to [(0, .vw 9 id0 0 4), (1, .str p1), (5, .int .i64 1), (7, .int .i64 4), (8, .int .i64 1)] [] rfl rfl ?_
  refine C_seq ?_
  refine C_reg ?_
  refine oM (.str p1) ?_
  refine oM (.vw 9 id0 0 4) ?_
  refine oM (.int .i64 1) ?_
  refine oP (.ptr id0 1) ?_
  refine oL (.str [116, 117, 109, 98, 108, 105, 110, 103]) hb0 ?_
  refine oP (.bool ((p1 : Bs) == [116, 117, 109, 98, 108, 105, 110, 103])) ?_
  refine O_nil ?_
  refine keep_to [(0, .vw 9 id0 0 4), (1, .str p1), (5, .int .i64 1), (7, .int .i64 4), (8, .int .i64 1), (16, .bool ((p1 : Bs) == [116, 117, 109, 98, 108, 105, 110, 103]))] [] rfl rfl ?_
  refine C_cond ((p1 : Bs) == [116, 117, 109, 98, 108, 105, 110, 103]) rfl (fun hc2813 => ?_) (fun hc2813 => ?_)
  ·replace h := ocond_t h hc2813
   refine C_seq ?_
   refine C_reg ?_
   refine oM (.int .i64 1) ?_
   refine oA (.int .i64 1) ?_
   refine O_nil ?_
   refine keep_to [(4, .int .i64 1)] [] rfl rfl ?_
   refine C_ret ?_
   obtain rfl := Option.some.inj h
   exact ⟨_, rfl, rfl, hk0, rfl⟩
  ·replace h := ocond_f h hc2813
   refine C_skip ?_
   refine C_reg ?_
   refine oP (.int .i64 2) ?_
   refine oM (.int .i64 2) ?_
   refine O_nil ?_
   refine keep_to [(0, .vw 9 id0 0 4), (1, .str p1), (7, .int .i64 4), (8, .int .i64 2)] [] rfl rfl ?_
   refine C_round ?_
   refine C_seq ?_
   refine C_reg ?_
   refine oP (.bool true) ?_
   refine O_nil ?_
   refine keep_to [(0, .vw 9 id0 0 4), (1, .str p1), (7, .int .i64 4), (8, .int .i64 2), (9, .bool true)] [] rfl rfl ?_
   refine C_seq ?_
   refine C_true rfl ?_
   refine C_skip ?_
   refine C_seq ?_
   refine C_block ?_
   refine C_seq ?_
   refine C_reg ?_
   refine oM (.int .i64 2) ?_
   refine oA (.int .i64 2) ?_
   refine O_nil ?_
   refine keep_to [(0, .vw 9 id0 0 4), (1, .str p1), (5, .int .i64 2), (7, .int .i64 4), (8, .int .i64 2)] [] rfl rfl ?_
   refine C_seq ?_
   refine C_reg ?_
   refine oM (.str p1) ?_
   refine oM (.vw 9 id0 0 4) ?_
   refine oM (.int .i64 2) ?_
   refine oP (.ptr id0 2) ?_
   refine oL (.str [115, 108, 105, 100, 105, 110, 103]) hb0 ?_
   refine oP (.bool ((p1 : Bs) == [115, 108, 105, 100, 105, 110, 103])) ?_
   refine O_nil ?_
   refine keep_to [(0, .vw 9 id0 0 4), (1, .str p1), (5, .int .i64 2), (7, .int .i64 4), (8, .int .i64 2), (16, .bool ((p1 : Bs) == [115, 108, 105, 100, 105, 110, 103]))] [] rfl rfl ?_
   refine C_cond ((p1 : Bs) == [115, 108, 105, 100, 105, 110, 103]) rfl (fun hc2814 => ?_) (fun hc2814 => ?_)
   ·replace h := ocond_t h hc2814
    refine C_seq ?_
    refine C_reg ?_
    refine oM (.int .i64 2) ?_
    refine oA (.int .i64 2) ?_
    refine O_nil ?_
    refine keep_to [(4, .int .i64 2)] [] rfl rfl ?_
    refine C_ret ?_
    obtain rfl := Option.some.inj h
    exact ⟨_, rfl, rfl, hk0, rfl⟩
   ·replace h := ocond_f h hc2814
    refine C_skip ?_
    refine C_reg ?_
    refine oP (.int .i64 3) ?_
    refine oM (.int .i64 3) ?_
    refine O_nil ?_
    refine keep_to [(0, .vw 9 id0 0 4), (1, .str p1), (7, .int .i64 4), (8, .int .i64 3)] [] rfl rfl ?_
    refine C_round ?_
    refine C_seq ?_
    refine C_reg ?_
    refine oP (.bool true) ?_
    refine O_nil ?_
    refine keep_to [(0, .vw 9 id0 0 4), (1, .str p1), (7, .int .i64 4), (8, .int .i64 3), (9, .bool true)] [] rfl rfl ?_
    refine C_seq ?_
    refine C_true rfl ?_
    refine C_skip ?_
    refine C_seq ?_
    refine C_block ?_
    refine C_seq ?_
    refine C_reg ?_
    refine oM (.int .i64 3) ?_
    refine oA (.int .i64 3) ?_
    refine O_nil ?_
    refine keep_to [(0, .vw 9 id0 0 4), (1, .str p1), (5, .int .i64 3), (7, .int .i64 4), (8, .int .i64 3)] [] rfl rfl ?_
    refine C_seq ?_
    refine C_reg ?_
    refine oM (.str p1) ?_
    refine oM (.vw 9 id0 0 4) ?_
    refine oM (.int .i64 3) ?_
    refine oP (.ptr id0 3) ?_
    refine oL (.str [115, 101, 115, 115, 105, 111, 110]) hb0 ?_
    refine oP (.bool ((p1 : Bs) == [115, 101, 115, 115, 105, 111, 110])) ?_
    refine O_nil ?_
    refine keep_to [(0, .vw 9 id0 0 4), (1, .str p1), (5, .int .i64 3), (7, .int .i64 4), (8, .int .i64 3), (16, .bool ((p1 : Bs) == [115, 101, 115, 115, 105, 111, 110]))] [] rfl rfl ?_
    refine C_cond ((p1 : Bs) == [115, 101, 115, 115, 105, 111, 110]) rfl (fun hc2815 => ?_) (fun hc2815 => ?_)
    ·replace h := ocond_t h hc2815
     refine C_seq ?_
     refine C_reg ?_
     refine oM (.int .i64 3) ?_
     refine oA (.int .i64 3) ?_
     refine O_nil ?_
     refine keep_to [(4, .int .i64 3)] [] rfl rfl ?_
     refine C_ret ?_
     obtain rfl := Option.some.inj h
     exact ⟨_, rfl, rfl, hk0, rfl⟩
    ·replace h := ocond_f h hc2815
     refine C_skip ?_
     refine C_reg ?_
     refine oP (.int .i64 4) ?_
     refine oM (.int .i64 4) ?_
     refine O_nil ?_
     refine keep_to [(0, .vw 9 id0 0 4), (1, .str p1), (7, .int .i64 4), (8, .int .i64 4)] [] rfl rfl ?_
     refine C_round ?_
     refine C_seq ?_
     refine C_reg ?_
     refine oP (.bool false) ?_
     refine O_nil ?_
     refine keep_to [(0, .vw 9 id0 0 4), (1, .str p1), (7, .int .i64 4), (8, .int .i64 4), (9, .bool false)] [] rfl rfl ?_
     refine C_seq ?_
     refine C_false rfl ?_
     refine C_exit ?_
     refine C_seq ?_
     refine C_reg ?_
     refine oB (.int .i64 (-1)) ?_
     refine O_nil ?_
     refine keep_to [(4, .int .i64 (-1))] [] rfl rfl ?_
     refine C_ret ?_
     obtain rfl := Option.some.inj h
     exact ⟨_, rfl, rfl, hk0, rfl⟩
/- freshet/job.operator$1 -/
def s42_0 (N : Nat) (p0 : T38) (pc0_0 : Bs) (pc0_1 : Int) (pc0_2 : Int) (pc0_3 : Int) (pc0_4 : Int) : Option Bool :=
some ((p0.Name : Bs) == pc0_0)
set_option maxRecDepth 8000 in
set_option maxHeartbeats 4000000 in
theorem w42_0 (N : Nat) {lo : Nat} {cl : Cl} {H : Hp} (p0 : T38) (pc0_0 : Bs) (pc0_1 : Int) (pc0_2 : Int) (pc0_3 : Int) (pc0_4 : Int) {idc0 : Nat} (hbc0 : H[idc0]? = some (some ⟨38, [.str pc0_0, .int .i64 pc0_1, .int .i64 pc0_2, .int .i64 pc0_3, .int .i64 pc0_4]⟩)) (hf : Fit lo cl H) {r : Bool} (h : s42_0 N p0 pc0_0 pc0_1 pc0_2 pc0_3 pc0_4 = some r) : CallsR Tryd.prog (Kj lo) 42 [.agg [.str p0.Name, .int .i64 p0.Agg, .int .i64 p0.Windows_Kind, .int .i64 p0.Windows_Size, .int .i64 p0.Windows_Slide], .ptr idc0 0] H (cl) fun x H' cl' => x = .bool r ∧ Kp [] H H' ∧ cl = cl' := by
 refine calls_by Tryd.func42 rfl rfl rfl ?_
 unfold s42_0 at h
 have hk0 : Kp [] H H := Kp.refl H
 refine C_seq ?_
 refine C_reg ?_
 refine oN (.agg [.str p0.Name, .int .i64 p0.Agg, .int .i64 p0.Windows_Kind, .int .i64 p0.Windows_Size, .int .i64 p0.Windows_Slide]) fun id2906 H2904 hi2907 hH2908 => ?_
 have hb2905 : H2904[id2906]? = some (some ⟨38, [.str p0.Name, .int .i64 p0.Agg, .int .i64 p0.Windows_Kind, .int .i64 p0.Windows_Size, .int .i64 p0.Windows_Slide]⟩) := getL hi2907 hH2908
 have ho2909 := Own.mk2 hf hk0 (Nat.le_of_eq hi2907)
 have hn2910 := ne_of_lt hbc0 (Nat.le_of_eq hi2907)
 have hb2911 := getA hH2908 hbc0
 have hk2912 := kpA hH2908 hk0
 refine oB (.bool false) ?_
 refine O_nil ?_
 refine keep_to [(1, .ptr idc0 0), (2, .ptr id2906 0)] [] rfl rfl ?_
 refine C_seq ?_
 refine C_reg ?_
 refine oP (.ptr id2906 0) ?_
 refine oL (.str p0.Name) hb2905 ?_
 refine oP (.ptr idc0 0) ?_
 refine oL (.str pc0_0) hb2911 ?_
 refine oP (.bool ((p0.Name : Bs) == pc0_0)) ?_
 refine oA (.bool ((p0.Name : Bs) == pc0_0)) ?_
 refine O_nil ?_
 refine keep_to [(3, .bool ((p0.Name : Bs) == pc0_0))] [] rfl rfl ?_
 refine C_ret ?_
 obtain rfl := Option.some.inj h
 exact ⟨_, rfl, rfl, hk2912, rfl⟩
set_option linter.unusedVariables false in
def s49_1_l0 (N : Nat) (p0 : (Sl T38)) (p1c0_0 : Bs) (p1c0_1 : Int) (p1c0_2 : Int) (p1c0_3 : Int) (p1c0_4 : Int) (k2913 : Unit → Option Int) : Nat → Int → Option Int
  | 0, _ => none
  | n + 1, v8 => (
cond (decide ((v8 : Int) < Sl.len p0))
 (Option.bind (Sl.get p0 v8) fun o2919 =>
Option.bind (s42_0 N o2919 p1c0_0 p1c0_1 p1c0_2 p1c0_3 p1c0_4) fun x2924 =>
cond (x2924)
 (some v8)
 (s49_1_l0 N p0 p1c0_0 p1c0_1 p1c0_2 p1c0_3 p1c0_4 k2913 n (IntKind.wrap .i64 (v8 + 1))))
 (k2913 ()))
/- slices.IndexFunc[[]freshet/api.Op,freshet/api.Op] -/
def s49_1 (N : Nat) (p0 : (Sl T38)) (p1c0_0 : Bs) (p1c0_1 : Int) (p1c0_2 : Int) (p1c0_3 : Int) (p1c0_4 : Int) : Option Int :=
jn (fun (e2912 : Unit) =>
some (-1)) fun k2913 => s49_1_l0 N p0 p1c0_0 p1c0_1 p1c0_2 p1c0_3 p1c0_4 k2913 N 0
set_option maxRecDepth 8000 in
set_option maxHeartbeats 4000000 in
theorem w49_1 (N : Nat) {lo : Nat} {cl : Cl} {H : Hp} (p0 : (Sl T38)) (p1c0_0 : Bs) (p1c0_1 : Int) (p1c0_2 : Int) (p1c0_3 : Int) (p1c0_4 : Int) {id1c0 : Nat} (hb1c0 : H[id1c0]? = some (some ⟨38, [.str p1c0_0, .int .i64 p1c0_1, .int .i64 p1c0_2, .int .i64 p1c0_3, .int .i64 p1c0_4]⟩)) (hf : Fit lo cl H) {r : Int} (h : s49_1 N p0 p1c0_0 p1c0_1 p1c0_2 p1c0_3 p1c0_4 = some r) : CallsR Tryd.prog (Kj lo) 49 [Sl.enc 38 T38.enc p0, .fn 42 [.ptr id1c0 0]] H (cl) fun x H' cl' => x = .int .i64 r ∧ Kp [] H H' ∧ cl = cl' := by
 refine calls_by Tryd.func49 rfl rfl rfl ?_
 unfold s49_1 at h
 have hk0 : Kp [] H H := Kp.refl H
 refine C_seq ?_
 refine C_reg ?_
 refine oB (.int .i64 0) ?_
 refine O_nil ?_
 refine keep_to [(0, Sl.enc 38 T38.enc p0), (1, .fn 42 [.ptr id1c0 0])] [] rfl rfl ?_
 refine C_seq ?_
 refine C_seq ?_
 refine C_reg ?_
 refine oM (Sl.enc 38 T38.enc p0) ?_
 refine oQ (.int .i64 (Sl.len p0)) (len_sl (f := T38.enc) rfl rfl rfl rfl) ?_
 refine oC (.int .i64 0) ?_
 refine O_nil ?_
 refine keep_to [(0, Sl.enc 38 T38.enc p0), (1, .fn 42 [.ptr id1c0 0]), (7, .int .i64 (Sl.len p0)), (8, .int .i64 0)] [] rfl rfl ?_
 refine C_block ?_
 obtain ⟨k2913, hk2914, h⟩ := jn_some h
 refine C_loopE [0, 1, 7, 8] (fun n env' H' sl' cl' => ∃ (v8 : Int), env' = [(0, Sl.enc 38 T38.enc p0), (1, .fn 42 [.ptr id1c0 0]), (7, .int .i64 (Sl.len p0)), (8, .int .i64 v8)] ∧ sl' = [] ∧ cl = cl' ∧ Kp [] H H' ∧ H'[id1c0]? = some (some ⟨38, [.str p1c0_0, .int .i64 p1c0_1, .int .i64 p1c0_2, .int .i64 p1c0_3, .int .i64 p1c0_4]⟩) ∧ s49_1_l0 N p0 p1c0_0 p1c0_1 p1c0_2 p1c0_3 p1c0_4 k2913 n v8 = some r) 0 [] (fun env' H' sl' cl' => ∃ (e2912 : Unit), env' = [] ∧ sl' = [] ∧ cl = cl' ∧ Kp [] H H' ∧ H'[id1c0]? = some (some ⟨38, [.str p1c0_0, .int .i64 p1c0_1, .int .i64 p1c0_2, .int .i64 p1c0_3, .int .i64 p1c0_4]⟩) ∧ k2913 e2912 = some r) N ⟨0, rfl, rfl, rfl, hk0, hb1c0, h⟩ ?_ ?_
 ·rintro n _ H2915 _ _ ⟨v8, rfl, rfl, rfl, hk2916, hb2917, h⟩
  cases n with
  | zero => rw [s49_1_l0] at h; cases h
  | succ n =>
  rw [s49_1_l0] at h
  refine C_seq ?_
  refine C_reg ?_
  refine oP (.bool (decide ((v8 : Int) < Sl.len p0))) ?_
  refine O_nil ?_
  refine keep_to [(0, Sl.enc 38 T38.enc p0), (1, .fn 42 [.ptr id1c0 0]), (7, .int .i64 (Sl.len p0)), (8, .int .i64 v8), (9, .bool (decide ((v8 : Int) < Sl.len p0)))] [] rfl rfl ?_
  refine C_seq ?_
  refine C_cond (decide ((v8 : Int) < Sl.len p0)) rfl (fun hc2918 => ?_) (fun hc2918 => ?_)
  ·replace h := ocond_t h hc2918
   refine C_skip ?_
   refine C_seq ?_
   refine C_block ?_
   refine C_seq ?_
   refine C_reg ?_
   refine oM (.int .i64 v8) ?_
   refine oA (.int .i64 v8) ?_
   refine O_nil ?_
   refine keep_to [(0, Sl.enc 38 T38.enc p0), (1, .fn 42 [.ptr id1c0 0]), (5, .int .i64 v8), (7, .int .i64 (Sl.len p0)), (8, .int .i64 v8)] [] rfl rfl ?_
   refine C_seq ?_
   refine C_reg ?_
   refine oM (.fn 42 [.ptr id1c0 0]) ?_
   refine oM (Sl.enc 38 T38.enc p0) ?_
   refine oM (.int .i64 v8) ?_
   obtain ⟨o2919, hx2920, h⟩ := obind_some h
   refine oQ (.ept [.str o2919.Name, .int .i64 o2919.Agg, .int .i64 o2919.Windows_Kind, .int .i64 o2919.Windows_Size, .int .i64 o2919.Windows_Slide] 0) (idx_sl (f := T38.enc) rfl rfl rfl hx2920) ?_
   refine oE (.agg [.str o2919.Name, .int .i64 o2919.Agg, .int .i64 o2919.Windows_Kind, .int .i64 o2919.Windows_Size, .int .i64 o2919.Windows_Slide]) ?_
   obtain ⟨x2924, hx2925, h⟩ := obind_some h
   refine oK [.agg [.str o2919.Name, .int .i64 o2919.Agg, .int .i64 o2919.Windows_Kind, .int .i64 o2919.Windows_Size, .int .i64 o2919.Windows_Slide]] (w42_0 N (lo := lo) o2919 p1c0_0 p1c0_1 p1c0_2 p1c0_3 p1c0_4 hb2917 (hf.kp hk2916) hx2925) ?_
   rintro _ H2921 _ ⟨rfl, hk2922, rfl⟩
   have hb2926 := hk2922.get0 hb2917
   have hk2927 := hk2916.trans hk2922
   refine O_nil ?_
   refine keep_to [(0, Sl.enc 38 T38.enc p0), (1, .fn 42 [.ptr id1c0 0]), (5, .int .i64 v8), (7, .int .i64 (Sl.len p0)), (8, .int .i64 v8), (16, .bool x2924)] [] rfl rfl ?_
   refine C_cond (x2924) rfl (fun hc2928 => ?_) (fun hc2928 => ?_)
   ·replace h := ocond_t h hc2928
    refine C_seq ?_
    refine C_reg ?_
    refine oM (.int .i64 v8) ?_
    refine oA (.int .i64 v8) ?_
    refine O_nil ?_
    refine keep_to [(4, .int .i64 v8)] [] rfl rfl ?_
    refine C_ret ?_
    obtain rfl := Option.some.inj h
    exact ⟨_, rfl, rfl, hk2927, rfl⟩
   ·replace h := ocond_f h hc2928
    refine C_skip ?_
    refine C_reg ?_
    refine oP (.int .i64 (IntKind.wrap .i64 (v8 + 1))) ?_
    refine oM (.int .i64 (IntKind.wrap .i64 (v8 + 1))) ?_
    refine O_nil ?_
    refine keep_to [(0, Sl.enc 38 T38.enc p0), (1, .fn 42 [.ptr id1c0 0]), (7, .int .i64 (Sl.len p0)), (8, .int .i64 (IntKind.wrap .i64 (v8 + 1)))] [] rfl rfl ?_
    exact ⟨n, Nat.lt_succ_self n, (IntKind.wrap .i64 (v8 + 1)), rfl, rfl, rfl, hk2927, hb2926, h⟩
  ·replace h := ocond_f h hc2918
   refine C_exit ?_
   exact ⟨_, rfl, rfl, rfl, hk2916, hb2917, h⟩
 ·rintro _ H2929 _ _ ⟨e2912, rfl, rfl, rfl, hk2930, hb2931, h⟩
  subst hk2914
  refine C_seq ?_
  refine C_reg ?_
  refine oB (.int .i64 (-1)) ?_
  refine O_nil ?_
  refine keep_to [(4, .int .i64 (-1))] [] rfl rfl ?_
  refine C_ret ?_
  obtain rfl := Option.some.inj h
  exact ⟨_, rfl, rfl, hk2930, rfl⟩
/- slices.ContainsFunc[[]freshet/api.Op,freshet/api.Op] -/
def s32_1 (N : Nat) (p0 : (Sl T38)) (p1c0_0 : Bs) (p1c0_1 : Int) (p1c0_2 : Int) (p1c0_3 : Int) (p1c0_4 : Int) : Option Bool :=
Option.bind (s49_1 N p0 p1c0_0 p1c0_1 p1c0_2 p1c0_3 p1c0_4) fun x2942 =>
some (decide ((x2942 : Int) ≥ 0))
set_option maxRecDepth 8000 in
set_option maxHeartbeats 4000000 in
theorem w32_1 (N : Nat) {lo : Nat} {cl : Cl} {H : Hp} (p0 : (Sl T38)) (p1c0_0 : Bs) (p1c0_1 : Int) (p1c0_2 : Int) (p1c0_3 : Int) (p1c0_4 : Int) {id1c0 : Nat} (hb1c0 : H[id1c0]? = some (some ⟨38, [.str p1c0_0, .int .i64 p1c0_1, .int .i64 p1c0_2, .int .i64 p1c0_3, .int .i64 p1c0_4]⟩)) (hf : Fit lo cl H) {r : Bool} (h : s32_1 N p0 p1c0_0 p1c0_1 p1c0_2 p1c0_3 p1c0_4 = some r) : CallsR Tryd.prog (Kj lo) 32 [Sl.enc 38 T38.enc p0, .fn 42 [.ptr id1c0 0]] H (cl) fun x H' cl' => x = .bool r ∧ Kp [] H H' ∧ cl = cl' := by
 refine calls_by Tryd.func32 rfl rfl rfl ?_
 unfold s32_1 at h
 have hk0 : Kp [] H H := Kp.refl H
 refine C_seq ?_
 refine C_reg ?_
 refine oB (.bool false) ?_
 refine O_nil ?_
 refine keep_to [(0, Sl.enc 38 T38.enc p0), (1, .fn 42 [.ptr id1c0 0])] [] rfl rfl ?_
 refine C_seq ?_
 refine C_reg ?_
 refine oM (Sl.enc 38 T38.enc p0) ?_
 refine oM (.fn 42 [.ptr id1c0 0]) ?_
 obtain ⟨x2942, hx2943, h⟩ := obind_some h
 refine oK [Sl.enc 38 T38.enc p0, .fn 42 [.ptr id1c0 0]] (w49_1 N (lo := lo) p0 p1c0_0 p1c0_1 p1c0_2 p1c0_3 p1c0_4 hb1c0 (hf.kp hk0) hx2943) ?_
 rintro _ H2939 _ ⟨rfl, hk2940, rfl⟩
 have hb2944 := hk2940.get0 hb1c0
 have hk2945 := hk0.trans hk2940
 refine oP (.bool (decide ((x2942 : Int) ≥ 0))) ?_
 refine oA (.bool (decide ((x2942 : Int) ≥ 0))) ?_
 refine O_nil ?_
 refine keep_to [(4, .bool (decide ((x2942 : Int) ≥ 0)))] [] rfl rfl ?_
 refine C_ret ?_
 obtain rfl := Option.some.inj h
 exact ⟨_, rfl, rfl, hk2945, rfl⟩
/- freshet/job.operator -/
def s22_0n (N : Nat) (p0_0 : Int) (p0_1 : Int) (p0_2 : Int) (p0_3 : Int) (p1 : (Sl Bs)) : Option (Bool × T25) :=
cond (decide ((Sl.len p1 : Int) < 5))
 (some (false, (T25.mk p0_0 p0_1 p0_2 p0_3 none)))
 (Option.bind (Sl.get p1 0) fun o2911 =>
cond (!((o2911 : Bs) == [111, 112]))
 (some (false, (T25.mk p0_0 p0_1 p0_2 p0_3 none)))
 (Option.bind (Sl.get p1 1) fun o2960 =>
Option.bind (Sl.get p1 2) fun o2962 =>
Option.bind (s41_0 N o2962) fun x2967 =>
Option.bind (Sl.get p1 3) fun o2974 =>
Option.bind (s41_1 N o2974) fun x2979 =>
Option.bind (Sl.get p1 4) fun o3004 =>
Option.bind (s40 N o3004) fun x3009 =>
jn (fun (v3036 : (Bool × Int)) =>
cond (!v3036.1)
 (some (false, (T25.mk p0_0 p0_1 p0_2 p0_3 none)))
 (Option.bind (s31 N (T38.mk o2960 x2967 x2979 x3009.1 v3036.2)) fun x3072 =>
cond (!x3072)
 (some (false, (T25.mk p0_0 p0_1 p0_2 p0_3 none)))
 (Option.bind (s32_1 N none o2960 x2967 x2979 x3009.1 v3036.2) fun x3081 =>
cond (x3081)
 (some (false, (T25.mk p0_0 p0_1 p0_2 p0_3 none)))
 (Option.bind (Sl.app 48 none (some ([(T38.mk o2960 x2967 x2979 x3009.1 v3036.2)], []))) fun l3089 =>
some (true, (T25.mk p0_0 p0_1 p0_2 p0_3 l3089)))))) fun k3037 =>
cond ((((x2979 : Int) == 2) && (((Sl.len p1 : Int) == 6) && true)))
 (Option.bind (Sl.get p1 5) fun o3040 =>
Option.bind (s40 N o3040) fun x3045 =>
cond (x3009.2)
 (k3037 (x3045.2, x3045.1))
 (k3037 (false, x3045.1)))
 (cond (!((((x2979 : Int) == 1) && (((Sl.len p1 : Int) == 5) && true))))
 (cond (!((((x2979 : Int) == 3) && (((Sl.len p1 : Int) == 5) && true))))
 (some (false, (T25.mk p0_0 p0_1 p0_2 p0_3 none)))
 (k3037 (x3009.2, 0)))
 (k3037 (x3009.2, 0)))))
set_option maxRecDepth 8000 in
set_option maxHeartbeats 4000000 in
theorem w22_0n (N : Nat) {lo : Nat} {cl : Cl} {H : Hp} (p0_0 : Int) (p0_1 : Int) (p0_2 : Int) (p0_3 : Int) (p1 : (Sl Bs)) {id0 : Nat} (hb0 : H[id0]? = some (some ⟨25, [.int .i64 p0_0, .int .i64 p0_1, .int .i64 p0_2, .int .i64 p0_3, Sl.enc 38 T38.enc none]⟩)) (hlo_id0 : Nat.ble lo id0 = true) (hcl_id0 : ∀ i o, (i, o) ∈ cl → i ≠ id0) (hf : Fit lo cl H) {r : (Bool × T25)} (h : s22_0n N p0_0 p0_1 p0_2 p0_3 p1 = some r) : CallsR Tryd.prog (Kj lo) 22 [.ptr id0 0, Sl.enc 9 AV.str p1] H (clq (none : Sl T38) id0 4 cl) fun x H' cl' => x = .bool r.1 ∧ H'[id0]? = some (some ⟨25, [.int .i64 r.2.Groups, .int .i64 r.2.Sources, .int .i64 r.2.Bound, .int .i64 r.2.Late, Sl.enc 38 T38.enc r.2.Ops]⟩) ∧ Kp [id0] H H' ∧ clq r.2.Ops id0 4 cl = cl' := by
 refine calls_by Tryd.func22 rfl rfl rfl ?_
 unfold s22_0n at h
 have hk0 : Kp [id0] H H := Kp.refl H
 refine C_seq ?_
 refine C_reg ?_
 refine oB (.bool false) ?_
 refine O_nil ?_
 refine keep_to [(0, .ptr id0 0), (1, Sl.enc 9 AV.str p1)] [] rfl rfl ?_
 refine C_seq ?_
 refine C_seq ?_
 refine C_reg ?_
 refine oM (Sl.enc 9 AV.str p1) ?_
 refine oQ (.int .i64 (Sl.len p1)) (len_sl (f := AV.str) rfl rfl rfl rfl) ?_
 refine oP (.bool (decide ((Sl.len p1 : Int) < 5))) ?_
 rcases Bool.eq_false_or_eq_true (decide ((Sl.len p1 : Int) < 5)) with hg2910 | hg2910
 ·replace h := ocond_t h hg2910
  refine O_move (sl' := []) (.bool true) rfl (congrArg (fun b => some (AV.bool b)) hg2910) rfl rfl rfl ?_
  refine O_skip rfl rfl ?_
  refine O_skip rfl rfl ?_
  refine O_skip rfl rfl ?_
  refine O_skip rfl rfl ?_
  refine oP (.bool true) ?_
  refine oM (.bool true) ?_
  refine O_skip rfl rfl ?_
  refine O_skip rfl rfl ?_
  refine O_skip rfl rfl ?_
  refine O_skip rfl rfl ?_
  refine O_skip rfl rfl ?_
  refine O_skip rfl rfl ?_
  refine oP (.bool true) ?_
  refine O_nil ?_
  refine keep_to [(0, .ptr id0 0), (1, Sl.enc 9 AV.str p1), (29, .bool true)] [] rfl rfl ?_
  refine C_true rfl ?_
  refine C_seq ?_
  refine C_reg ?_
  refine oB (.bool false) ?_
  refine O_nil ?_
  refine keep_to [(4, .bool false)] [] rfl rfl ?_
  refine C_ret ?_
  obtain rfl := Option.some.inj h
  exact ⟨_, rfl, rfl, hb0, hk0, rfl⟩
 ·replace h := ocond_f h hg2910
  refine O_move (sl' := []) (.bool false) rfl (congrArg (fun b => some (AV.bool b)) hg2910) rfl rfl rfl ?_
  refine oM (Sl.enc 9 AV.str p1) ?_
  obtain ⟨o2911, hx2912, h⟩ := obind_some h
  refine oQ (.ept [.str o2911] 0) (idx_sl (f := AV.str) rfl rfl rfl hx2912) ?_
  refine oE (.str o2911) ?_
  refine oP (.bool (!((o2911 : Bs) == [111, 112]))) ?_
  refine oP (.bool (!((o2911 : Bs) == [111, 112]))) ?_
  rcases Bool.eq_false_or_eq_true (!((o2911 : Bs) == [111, 112])) with hg2913 | hg2913
  ·replace h := ocond_t h hg2913
   refine O_move (sl' := []) (.bool true) rfl (congrArg (fun b => some (AV.bool b)) hg2913) rfl rfl rfl ?_
   refine O_skip rfl rfl ?_
   refine O_skip rfl rfl ?_
   refine O_skip rfl rfl ?_
   refine O_skip rfl rfl ?_
   refine O_skip rfl rfl ?_
   refine O_skip rfl rfl ?_
   refine oP (.bool true) ?_
   refine O_nil ?_
   refine keep_to [(0, .ptr id0 0), (1, Sl.enc 9 AV.str p1), (29, .bool true)] [] rfl rfl ?_
   refine C_true rfl ?_
   refine C_seq ?_
   refine C_reg ?_
   refine oB (.bool false) ?_
   refine O_nil ?_
   refine keep_to [(4, .bool false)] [] rfl rfl ?_
   refine C_ret ?_
   obtain rfl := Option.some.inj h
   exact ⟨_, rfl, rfl, hb0, hk0, rfl⟩
  ·replace h := ocond_f h hg2913
   refine O_move (sl' := []) (.bool false) rfl (congrArg (fun b => some (AV.bool b)) hg2913) rfl rfl rfl ?_
   refine oM (.ptr id0 0) ?_
   refine oP (.ptr id0 0) ?_
   refine oP (.ptr id0 4) ?_
   refine oL (Sl.enc 38 T38.enc none) hb0 ?_
   refine oP (.int .i64 0) ?_
   refine oP (.bool false) ?_
   refine oP (.bool false) ?_
   refine O_nil ?_
   refine keep_to [(0, .ptr id0 0), (1, Sl.enc 9 AV.str p1), (29, .bool false)] [] rfl rfl ?_
   refine C_false rfl ?_
   refine C_skip ?_
   refine C_seq ?_
   refine C_reg ?_
   refine oK [] (w26 N (lo := lo) (Fit.q (hf.kp hk0) hb0)) ?_
   rintro _ H2914 _ ⟨rfl, hk2915, rfl⟩
   have hb2917 := hk2915.get0 hb0
   have hk2918 := hk0.trans hk2915
   refine oM (.tup [.agg [.str [], .str [99, 111, 117, 110, 116], .str [115, 117, 109], .str [109, 105, 110], .str [109, 97, 120], .str [108, 97, 115, 116], .str [108, 105, 115, 116], .str [100, 105, 115, 116, 105, 110, 99, 116], .str [115, 112, 105, 110]], .agg [.str [], .str [116, 117, 109, 98, 108, 105, 110, 103], .str [115, 108, 105, 100, 105, 110, 103], .str [115, 101, 115, 115, 105, 111, 110]]]) ?_
   refine oP (.agg [.str [], .str [99, 111, 117, 110, 116], .str [115, 117, 109], .str [109, 105, 110], .str [109, 97, 120], .str [108, 97, 115, 116], .str [108, 105, 115, 116], .str [100, 105, 115, 116, 105, 110, 99, 116], .str [115, 112, 105, 110]]) ?_
   refine oP (.agg [.str [], .str [116, 117, 109, 98, 108, 105, 110, 103], .str [115, 108, 105, 100, 105, 110, 103], .str [115, 101, 115, 115, 105, 111, 110]]) ?_
   refine oZ [.str [], .str [], .str [], .str [], .str [], .str [], .str [], .str [], .str []] fun id2921 H2919 hi2922 hH2923 => ?_
   have hb2920 : H2919[id2921]? = some (some ⟨55, [.str [], .str [], .str [], .str [], .str [], .str [], .str [], .str [], .str []]⟩) := getL hi2922 hH2923
   have ho2924 := Own.mk2 hf hk2918 (Nat.le_of_eq hi2922)
   have hn2925 := ne_of_lt hb2917 (Nat.le_of_eq hi2922)
   have hb2926 := getA hH2923 hb2917
   have hk2927 := kpA hH2923 hk2918
   refine oZ [.str [], .str [], .str [], .str []] fun id2930 H2928 hi2931 hH2932 => ?_
   have hb2929 : H2928[id2930]? = some (some ⟨56, [.str [], .str [], .str [], .str []]⟩) := getL hi2931 hH2932
   have ho2933 := Own.mk2 hf hk2927 (Nat.le_of_eq hi2931)
   have hn2934 := ne_of_lt hb2926 (Nat.le_of_eq hi2931)
   have hn2935 := ne_of_lt hb2920 (Nat.le_of_eq hi2931)
   have hb2936 := getA hH2932 hb2926
   have hb2937 := getA hH2932 hb2920
   have hk2938 := kpA hH2932 hk2927
   refine O_store (sl' := []) (cl' := clq (none : Sl T38) id0 4 cl) (.agg [.str [], .str [99, 111, 117, 110, 116], .str [115, 117, 109], .str [109, 105, 110], .str [109, 97, 120], .str [108, 97, 115, 116], .str [108, 105, 115, 116], .str [100, 105, 115, 116, 105, 110, 99, 116], .str [115, 112, 105, 110]]) rfl rfl rfl ho2924.lo hb2937 rfl rfl (fun q h => by cases h) (by intro i o h0; refine .inr ⟨h0, fun e => ?_⟩; rcases mem_clq (s := (none : Sl T38)) (id := id0) (o := 4) (cl := cl) h0 with ⟨e1, e2⟩ | h1; exact hn2925 (e1.symm.trans e.1); exact ho2924.cl i o h1 e.1) fun H2939 hH2940 => ?_
   have hb2941 : H2939[id2921]? = some (some ⟨55, [.str [], .str [99, 111, 117, 110, 116], .str [115, 117, 109], .str [109, 105, 110], .str [109, 97, 120], .str [108, 97, 115, 116], .str [108, 105, 115, 116], .str [100, 105, 115, 116, 105, 110, 99, 116], .str [115, 112, 105, 110]]⟩) := getW hH2940 hb2937
   have hb2942 := getS hH2940 hn2925 hb2936
   have hb2943 := getS hH2940 (fun e => hn2935 e.symm) hb2929
   have hk2944 := kpS hH2940 ho2924.ge hk2938
   refine O_store (sl' := []) (cl' := clq (none : Sl T38) id0 4 cl) (.agg [.str [], .str [116, 117, 109, 98, 108, 105, 110, 103], .str [115, 108, 105, 100, 105, 110, 103], .str [115, 101, 115, 115, 105, 111, 110]]) rfl rfl rfl ho2933.lo hb2943 rfl rfl (fun q h => by cases h) (by intro i o h0; refine .inr ⟨h0, fun e => ?_⟩; rcases mem_clq (s := (none : Sl T38)) (id := id0) (o := 4) (cl := cl) h0 with ⟨e1, e2⟩ | h1; exact hn2934 (e1.symm.trans e.1); exact ho2933.cl i o h1 e.1) fun H2945 hH2946 => ?_
   have hb2947 : H2945[id2930]? = some (some ⟨56, [.str [], .str [116, 117, 109, 98, 108, 105, 110, 103], .str [115, 108, 105, 100, 105, 110, 103], .str [115, 101, 115, 115, 105, 111, 110]]⟩) := getW hH2946 hb2943
   have hb2948 := getS hH2946 hn2934 hb2942
   have hb2949 := getS hH2946 hn2935 hb2941
   have hk2950 := kpS hH2946 ho2933.ge hk2944
   refine O_nil ?_
   refine keep_to [(0, .ptr id0 0), (1, Sl.enc 9 AV.str p1), (5, .ptr id2921 0), (6, .ptr id2930 0)] [] rfl rfl ?_
   refine C_seq ?_
   refine C_drawB none (m := true) (q := 1) rfl rfl rfl fun b2951 H2953 hb2952 hH2954 => ?_
   have hz2955 : H2953[b2951 + 0]? = some none := getZ hH2954 hb2952 (by decide)
   have hb2956 := getA hH2954 hb2948
   have hb2957 := getA hH2954 hb2949
   have hb2958 := getA hH2954 hb2947
   have hk2959 := kpA hH2954 hk2950
   refine oM (Sl.enc 9 AV.str p1) ?_
   obtain ⟨o2960, hx2961, h⟩ := obind_some h
   refine oQ (.ept [.str o2960] 0) (idx_sl (f := AV.str) rfl rfl rfl hx2961) ?_
   refine oE (.str o2960) ?_
   refine oP (.vw 9 id2921 0 9) ?_
   refine oM (Sl.enc 9 AV.str p1) ?_
   obtain ⟨o2962, hx2963, h⟩ := obind_some h
   refine oQ (.ept [.str o2962] 0) (idx_sl (f := AV.str) rfl rfl rfl hx2963) ?_
   refine oE (.str o2962) ?_
   obtain ⟨x2967, hx2968, h⟩ := obind_some h
   refine O_call (sl' := []) [.vw 9 id2921 0 9, .str o2962] rfl rfl rfl rfl (above_of (hf.kp hk2959)) rfl rfl (w41_0 N (lo := (max lo H2953.length)) o2962 hb2957 (Fit.q (hf.kp hk2959) hb2956).up hx2968) ?_
   rintro _ H2964 _ ⟨rfl, hk2965, rfl⟩
   have hz2969 : H2964[b2951 + 0]? = some none := hk2965.get0 hz2955
   have hb2970 := hk2965.get0 hb2956
   have hb2971 := hk2965.get0 hb2957
   have hb2972 := hk2965.get0 hb2958
   have hk2973 := hk2959.trans hk2965
   refine oP (.vw 9 id2930 0 4) ?_
   refine oM (Sl.enc 9 AV.str p1) ?_
   obtain ⟨o2974, hx2975, h⟩ := obind_some h
   refine oQ (.ept [.str o2974] 0) (idx_sl (f := AV.str) rfl rfl rfl hx2975) ?_
   refine oE (.str o2974) ?_
   obtain ⟨x2979, hx2980, h⟩ := obind_some h
   refine O_call (sl' := []) [.vw 9 id2930 0 4, .str o2974] rfl rfl rfl rfl (above_of (hf.kp hk2973)) rfl rfl (w41_1 N (lo := (max lo H2964.length)) o2974 hb2972 (Fit.q (hf.kp hk2973) hb2970).up hx2980) ?_
   rintro _ H2976 _ ⟨rfl, hk2977, rfl⟩
   have hz2981 : H2976[b2951 + 0]? = some none := hk2977.get0 hz2969
   have hb2982 := hk2977.get0 hb2970
   have hb2983 := hk2977.get0 hb2971
   have hb2984 := hk2977.get0 hb2972
   have hk2985 := hk2973.trans hk2977
   refine oP (.agg [.int .i64 x2979, .int .i64 0, .int .i64 0]) ?_
   refine oP (.agg [.str o2960, .int .i64 x2967, .int .i64 x2979, .int .i64 0, .int .i64 0]) ?_
   refine O_allocD (sl' := []) (q := 0) [.str [], .int .i64 0, .int .i64 0, .int .i64 0, .int .i64 0] rfl rfl rfl rfl hz2981 rfl rfl fun H2986 hH2988 => ?_
   have hb2987 : H2986[(b2951 + 0)]? = some (some ⟨38, [.str [], .int .i64 0, .int .i64 0, .int .i64 0, .int .i64 0]⟩) := by subst hH2988; exact get_set_same hz2981 _
   have ho2989 : Am.Own lo cl H (b2951 + 0) := Own.mk2 hf hk2950 (by omega)
   have hn2990 : id0 ≠ (b2951 + 0) := ne_of_lt hb2948 (by omega)
   have hn2991 : id2921 ≠ (b2951 + 0) := ne_of_lt hb2949 (by omega)
   have hn2992 : id2930 ≠ (b2951 + 0) := ne_of_lt hb2947 (by omega)
   have hb2993 := getS hH2988 hn2990 hb2982
   have hb2994 := getS hH2988 hn2991 hb2983
   have hb2995 := getS hH2988 hn2992 hb2984
   have hk2996 := kpS hH2988 ho2989.ge hk2985
   refine O_store (sl' := []) (cl' := clq (none : Sl T38) id0 4 cl) (.agg [.str o2960, .int .i64 x2967, .int .i64 x2979, .int .i64 0, .int .i64 0]) rfl rfl rfl ho2989.lo hb2987 rfl rfl (fun q h => by cases h) (by intro i o h0; refine .inr ⟨h0, fun e => ?_⟩; rcases mem_clq (s := (none : Sl T38)) (id := id0) (o := 4) (cl := cl) h0 with ⟨e1, e2⟩ | h1; exact hn2990 (e1.symm.trans e.1); exact ho2989.cl i o h1 e.1) fun H2997 hH2998 => ?_
   have hb2999 : H2997[(b2951 + 0)]? = some (some ⟨38, [.str o2960, .int .i64 x2967, .int .i64 x2979, .int .i64 0, .int .i64 0]⟩) := getW hH2998 hb2987
   have hb3000 := getS hH2998 hn2990 hb2993
   have hb3001 := getS hH2998 hn2991 hb2994
   have hb3002 := getS hH2998 hn2992 hb2995
   have hk3003 := kpS hH2998 ho2989.ge hk2996
   refine O_nil ?_
   refine keep_to [(0, .ptr id0 0), (1, Sl.enc 9 AV.str p1), (7, .ptr (b2951 + 0) 0)] [] rfl rfl ?_
   refine C_seq ?_
   refine C_reg ?_
   refine oM (Sl.enc 9 AV.str p1) ?_
   obtain ⟨o3004, hx3005, h⟩ := obind_some h
   refine oQ (.ept [.str o3004] 0) (idx_sl (f := AV.str) rfl rfl rfl hx3005) ?_
   refine oE (.str o3004) ?_
   obtain ⟨x3009, hx3010, h⟩ := obind_some h
   refine oK [.str o3004] (w40 N (lo := lo) o3004 (Fit.q (hf.kp hk3003) hb3000) hx3010) ?_
   rintro _ H3006 _ ⟨rfl, hk3007, rfl⟩
   have hb3011 := hk3007.get0 hb3000
   have hb3012 := hk3007.get0 hb2999
   have hk3013 := hk3003.trans hk3007
   refine oM (.tup [.int .i64 x3009.1, .bool x3009.2]) ?_
   refine oP (.int .i64 x3009.1) ?_
   refine oP (.bool x3009.2) ?_
   refine oA (.int .i64 x3009.1) ?_
   refine oA (.bool x3009.2) ?_
   refine O_nil ?_
   refine keep_to [(0, .ptr id0 0), (1, Sl.enc 9 AV.str p1), (7, .ptr (b2951 + 0) 0), (8, .int .i64 x3009.1), (9, .bool x3009.2)] [] rfl rfl ?_
   refine C_seq ?_
   refine C_reg ?_
   refine oM (.int .i64 x3009.1) ?_
   refine oP (.ptr (b2951 + 0) 2) ?_
   refine oP (.ptr (b2951 + 0) 3) ?_
   refine O_store (sl' := []) (cl' := clq (none : Sl T38) id0 4 cl) (.int .i64 x3009.1) rfl rfl rfl ho2989.lo hb3012 rfl rfl (fun q h => by cases h) (by intro i o h0; refine .inr ⟨h0, fun e => ?_⟩; rcases mem_clq (s := (none : Sl T38)) (id := id0) (o := 4) (cl := cl) h0 with ⟨e1, e2⟩ | h1; exact hn2990 (e1.symm.trans e.1); exact ho2989.cl i o h1 e.1) fun H3014 hH3015 => ?_
   have hb3016 : H3014[(b2951 + 0)]? = some (some ⟨38, [.str o2960, .int .i64 x2967, .int .i64 x2979, .int .i64 x3009.1, .int .i64 0]⟩) := getW hH3015 hb3012
   have hb3017 := getS hH3015 hn2990 hb3011
   have hk3018 := kpS hH3015 ho2989.ge hk3013
   refine O_nil ?_
   refine keep_to [(0, .ptr id0 0), (1, Sl.enc 9 AV.str p1), (7, .ptr (b2951 + 0) 0), (9, .bool x3009.2)] [] rfl rfl ?_
   refine C_seq ?_
   refine C_reg ?_
   refine oP (.ptr (b2951 + 0) 2) ?_
   refine oP (.ptr (b2951 + 0) 2) ?_
   refine oL (.int .i64 x2979) hb3016 ?_
   refine oM (Sl.enc 9 AV.str p1) ?_
   refine oQ (.int .i64 (Sl.len p1)) (len_sl (f := AV.str) rfl rfl rfl rfl) ?_
   refine oP (.agg [.int .i64 x2979, .int .i64 (Sl.len p1)]) ?_
   refine oZ [.int .i64 0, .int .i64 0] fun id3021 H3019 hi3022 hH3023 => ?_
   have hb3020 : H3019[id3021]? = some (some ⟨75, [.int .i64 0, .int .i64 0]⟩) := getL hi3022 hH3023
   have ho3024 := Own.mk2 hf hk3018 (Nat.le_of_eq hi3022)
   have hn3025 := ne_of_lt hb3017 (Nat.le_of_eq hi3022)
   have hn3026 := ne_of_lt hb3016 (Nat.le_of_eq hi3022)
   have hb3027 := getA hH3023 hb3017
   have hb3028 := getA hH3023 hb3016
   have hk3029 := kpA hH3023 hk3018
   refine O_store (sl' := []) (cl' := clq (none : Sl T38) id0 4 cl) (.agg [.int .i64 x2979, .int .i64 (Sl.len p1)]) rfl rfl rfl ho3024.lo hb3020 rfl rfl (fun q h => by cases h) (by intro i o h0; refine .inr ⟨h0, fun e => ?_⟩; rcases mem_clq (s := (none : Sl T38)) (id := id0) (o := 4) (cl := cl) h0 with ⟨e1, e2⟩ | h1; exact hn3025 (e1.symm.trans e.1); exact ho3024.cl i o h1 e.1) fun H3030 hH3031 => ?_
   have hb3032 : H3030[id3021]? = some (some ⟨75, [.int .i64 x2979, .int .i64 (Sl.len p1)]⟩) := getW hH3031 hb3020
   have hb3033 := getS hH3031 hn3025 hb3027
   have hb3034 := getS hH3031 hn3026 hb3028
   have hk3035 := kpS hH3031 ho3024.ge hk3029
   refine O_nil ?_
   refine keep_to [(0, .ptr id0 0), (1, Sl.enc 9 AV.str p1), (7, .ptr (b2951 + 0) 0), (9, .bool x3009.2), (10, .ptr id3021 0)] [] rfl rfl ?_
   obtain ⟨k3037, hk3038, h⟩ := jn_some h
   refine C_join [0, 7, 9] (fun env' H' sl' cl' => ∃ v3036 : (Bool × Int), env' = [(0, .ptr id0 0), (7, .ptr (b2951 + 0) 0), (9, .bool v3036.1)] ∧ sl' = [] ∧ clq (none : Sl T38) id0 4 cl = cl' ∧ Kp [id0] H H' ∧ H'[id0]? = some (some ⟨25, [.int .i64 p0_0, .int .i64 p0_1, .int .i64 p0_2, .int .i64 p0_3, Sl.enc 38 T38.enc none]⟩) ∧ H'[(b2951 + 0)]? = some (some ⟨38, [.str o2960, .int .i64 x2967, .int .i64 x2979, .int .i64 x3009.1, .int .i64 v3036.2]⟩) ∧ k3037 v3036 = some r) ?_ ?_
   ·refine C_seq ?_
    refine C_reg ?_
    refine oL (.agg [.int .i64 x2979, .int .i64 (Sl.len p1)]) hb3032 ?_
    refine oP (.agg [.int .i64 2, .int .i64 6]) ?_
    refine oQ (.bool (((x2979 : Int) == 2) && (((Sl.len p1 : Int) == 6) && true))) (eq_agg (b := (((x2979 : Int) == 2) && (((Sl.len p1 : Int) == 6) && true))) rfl rfl eg75 (eqIn_array rfl rfl (eqe_cons rfl rfl (eqIn_int rfl) (eqe_cons rfl rfl (eqIn_int rfl) eqe_nil)))) ?_
    refine O_nil ?_
    refine keep_to [(0, .ptr id0 0), (1, Sl.enc 9 AV.str p1), (7, .ptr (b2951 + 0) 0), (9, .bool x3009.2), (10, .ptr id3021 0), (67, .bool (((x2979 : Int) == 2) && (((Sl.len p1 : Int) == 6) && true)))] [] rfl rfl ?_
    refine C_cond ((((x2979 : Int) == 2) && (((Sl.len p1 : Int) == 6) && true))) rfl (fun hc3039 => ?_) (fun hc3039 => ?_)
    ·replace h := ocond_t h hc3039
     refine C_seq ?_
     refine C_reg ?_
     refine oM (Sl.enc 9 AV.str p1) ?_
     obtain ⟨o3040, hx3041, h⟩ := obind_some h
     refine oQ (.ept [.str o3040] 0) (idx_sl (f := AV.str) rfl rfl rfl hx3041) ?_
     refine oE (.str o3040) ?_
     obtain ⟨x3045, hx3046, h⟩ := obind_some h
     refine oK [.str o3040] (w40 N (lo := lo) o3040 (Fit.q (hf.kp hk3035) hb3033) hx3046) ?_
     rintro _ H3042 _ ⟨rfl, hk3043, rfl⟩
     have hb3047 := hk3043.get0 hb3033
     have hb3048 := hk3043.get0 hb3034
     have hb3049 := hk3043.get0 hb3032
     have hk3050 := hk3035.trans hk3043
     refine oM (.tup [.int .i64 x3045.1, .bool x3045.2]) ?_
     refine oP (.int .i64 x3045.1) ?_
     refine oP (.bool x3045.2) ?_
     refine oA (.int .i64 x3045.1) ?_
     refine oA (.bool x3045.2) ?_
     refine O_nil ?_
     refine keep_to [(0, .ptr id0 0), (7, .ptr (b2951 + 0) 0), (9, .bool x3009.2), (11, .int .i64 x3045.1), (12, .bool x3045.2)] [] rfl rfl ?_
     refine C_reg ?_
     refine oM (.int .i64 x3045.1) ?_
     refine oM (.bool x3009.2) ?_
     rcases Bool.eq_false_or_eq_true (x3009.2) with hg3051 | hg3051
     ·replace h := ocond_t h hg3051
      refine O_move (sl' := []) (.bool true) rfl (congrArg (fun b => some (AV.bool b)) hg3051) rfl rfl rfl ?_
      refine oM (.bool x3045.2) ?_
      refine oP (.bool x3045.2) ?_
      refine oP (.ptr (b2951 + 0) 2) ?_
      refine oP (.ptr (b2951 + 0) 4) ?_
      refine O_store (sl' := []) (cl' := clq (none : Sl T38) id0 4 cl) (.int .i64 x3045.1) rfl rfl rfl ho2989.lo hb3048 rfl rfl (fun q h => by cases h) (by intro i o h0; refine .inr ⟨h0, fun e => ?_⟩; rcases mem_clq (s := (none : Sl T38)) (id := id0) (o := 4) (cl := cl) h0 with ⟨e1, e2⟩ | h1; exact hn2990 (e1.symm.trans e.1); exact ho2989.cl i o h1 e.1) fun H3052 hH3053 => ?_
      have hb3054 : H3052[(b2951 + 0)]? = some (some ⟨38, [.str o2960, .int .i64 x2967, .int .i64 x2979, .int .i64 x3009.1, .int .i64 x3045.1]⟩) := getW hH3053 hb3048
      have hb3055 := getS hH3053 hn2990 hb3047
      have hk3056 := kpS hH3053 ho2989.ge hk3050
      refine oA (.bool x3045.2) ?_
      refine O_nil ?_
      refine keep_to [(0, .ptr id0 0), (7, .ptr (b2951 + 0) 0), (9, .bool x3045.2)] [] rfl rfl ?_
      exact ⟨_, rfl, rfl, rfl, hk3056, hb3055, hb3054, h⟩
     ·replace h := ocond_f h hg3051
      refine O_move (sl' := []) (.bool false) rfl (congrArg (fun b => some (AV.bool b)) hg3051) rfl rfl rfl ?_
      refine O_skip rfl rfl ?_
      refine oP (.bool false) ?_
      refine oP (.ptr (b2951 + 0) 2) ?_
      refine oP (.ptr (b2951 + 0) 4) ?_
      refine O_store (sl' := []) (cl' := clq (none : Sl T38) id0 4 cl) (.int .i64 x3045.1) rfl rfl rfl ho2989.lo hb3048 rfl rfl (fun q h => by cases h) (by intro i o h0; refine .inr ⟨h0, fun e => ?_⟩; rcases mem_clq (s := (none : Sl T38)) (id := id0) (o := 4) (cl := cl) h0 with ⟨e1, e2⟩ | h1; exact hn2990 (e1.symm.trans e.1); exact ho2989.cl i o h1 e.1) fun H3057 hH3058 => ?_
      have hb3059 : H3057[(b2951 + 0)]? = some (some ⟨38, [.str o2960, .int .i64 x2967, .int .i64 x2979, .int .i64 x3009.1, .int .i64 x3045.1]⟩) := getW hH3058 hb3048
      have hb3060 := getS hH3058 hn2990 hb3047
      have hk3061 := kpS hH3058 ho2989.ge hk3050
      refine oA (.bool false) ?_
      refine O_nil ?_
      refine keep_to [(0, .ptr id0 0), (7, .ptr (b2951 + 0) 0), (9, .bool false)] [] rfl rfl ?_
      exact ⟨_, rfl, rfl, rfl, hk3061, hb3060, hb3059, h⟩
    ·replace h := ocond_f h hc3039
     refine C_seq ?_
     refine C_reg ?_
     refine oL (.agg [.int .i64 x2979, .int .i64 (Sl.len p1)]) hb3032 ?_
     refine oP (.agg [.int .i64 1, .int .i64 5]) ?_
     refine oQ (.bool (!((((x2979 : Int) == 1) && (((Sl.len p1 : Int) == 5) && true))))) (neq_agg (b := (((x2979 : Int) == 1) && (((Sl.len p1 : Int) == 5) && true))) rfl rfl eg75 (eqIn_array rfl rfl (eqe_cons rfl rfl (eqIn_int rfl) (eqe_cons rfl rfl (eqIn_int rfl) eqe_nil)))) ?_
     rcases Bool.eq_false_or_eq_true (!((((x2979 : Int) == 1) && (((Sl.len p1 : Int) == 5) && true)))) with hg3062 | hg3062
     ·replace h := ocond_t h hg3062
      refine O_move (sl' := []) (.bool true) rfl (congrArg (fun b => some (AV.bool b)) hg3062) rfl rfl rfl ?_
      refine oL (.agg [.int .i64 x2979, .int .i64 (Sl.len p1)]) hb3032 ?_
      refine oP (.agg [.int .i64 3, .int .i64 5]) ?_
      refine oQ (.bool (!((((x2979 : Int) == 3) && (((Sl.len p1 : Int) == 5) && true))))) (neq_agg (b := (((x2979 : Int) == 3) && (((Sl.len p1 : Int) == 5) && true))) rfl rfl eg75 (eqIn_array rfl rfl (eqe_cons rfl rfl (eqIn_int rfl) (eqe_cons rfl rfl (eqIn_int rfl) eqe_nil)))) ?_
      refine oP (.bool (!((((x2979 : Int) == 3) && (((Sl.len p1 : Int) == 5) && true))))) ?_
      refine O_nil ?_
      refine keep_to [(0, .ptr id0 0), (7, .ptr (b2951 + 0) 0), (9, .bool x3009.2), (89, .bool (!((((x2979 : Int) == 3) && (((Sl.len p1 : Int) == 5) && true)))))] [] rfl rfl ?_
      refine C_cond (!((((x2979 : Int) == 3) && (((Sl.len p1 : Int) == 5) && true)))) rfl (fun hc3063 => ?_) (fun hc3063 => ?_)
      ·replace h := ocond_t h hc3063
       refine C_seq ?_
       refine C_reg ?_
       refine oB (.bool false) ?_
       refine O_nil ?_
       refine keep_to [(4, .bool false)] [] rfl rfl ?_
       refine C_ret ?_
       obtain rfl := Option.some.inj h
       exact ⟨_, rfl, rfl, hb3033, hk3035, rfl⟩
      ·replace h := ocond_f h hc3063
       refine C_skip ?_
       exact ⟨_, rfl, rfl, rfl, hk3035, hb3033, hb3034, h⟩
     ·replace h := ocond_f h hg3062
      refine O_move (sl' := []) (.bool false) rfl (congrArg (fun b => some (AV.bool b)) hg3062) rfl rfl rfl ?_
      refine O_skip rfl rfl ?_
      refine O_skip rfl rfl ?_
      refine O_skip rfl rfl ?_
      refine oP (.bool false) ?_
      refine O_nil ?_
      refine keep_to [(0, .ptr id0 0), (7, .ptr (b2951 + 0) 0), (9, .bool x3009.2), (89, .bool false)] [] rfl rfl ?_
      refine C_false rfl ?_
      refine C_skip ?_
      exact ⟨_, rfl, rfl, rfl, hk3035, hb3033, hb3034, h⟩
   ·rintro _ H3064 _ _ ⟨v3036, rfl, rfl, rfl, hk3065, hb3066, hb3067, h⟩
    subst hk3038
    refine C_seq ?_
    refine C_seq ?_
    refine C_reg ?_
    refine oM (.bool v3036.1) ?_
    refine oP (.bool (!v3036.1)) ?_
    rcases Bool.eq_false_or_eq_true (!v3036.1) with hg3068 | hg3068
    ·replace h := ocond_t h hg3068
     refine O_move (sl' := []) (.bool true) rfl (congrArg (fun b => some (AV.bool b)) hg3068) rfl rfl rfl ?_
     refine O_skip rfl rfl ?_
     refine O_skip rfl rfl ?_
     refine O_skip rfl rfl ?_
     refine oP (.bool true) ?_
     refine oM (.bool true) ?_
     refine O_skip rfl rfl ?_
     refine O_skip rfl rfl ?_
     refine O_skip rfl rfl ?_
     refine O_skip rfl rfl ?_
     refine O_skip rfl rfl ?_
     refine O_skip rfl rfl ?_
     refine oP (.bool true) ?_
     refine O_nil ?_
     refine keep_to [(0, .ptr id0 0), (7, .ptr (b2951 + 0) 0), (104, .bool true)] [] rfl rfl ?_
     refine C_true rfl ?_
     refine C_seq ?_
     refine C_reg ?_
     refine oB (.bool false) ?_
     refine O_nil ?_
     refine keep_to [(4, .bool false)] [] rfl rfl ?_
     refine C_ret ?_
     obtain rfl := Option.some.inj h
     exact ⟨_, rfl, rfl, hb3066, hk3065, rfl⟩
    ·replace h := ocond_f h hg3068
     refine O_move (sl' := []) (.bool false) rfl (congrArg (fun b => some (AV.bool b)) hg3068) rfl rfl rfl ?_
     refine oL (.agg [.str o2960, .int .i64 x2967, .int .i64 x2979, .int .i64 x3009.1, .int .i64 v3036.2]) hb3067 ?_
     obtain ⟨x3072, hx3073, h⟩ := obind_some h
     refine oK [.agg [.str o2960, .int .i64 x2967, .int .i64 x2979, .int .i64 x3009.1, .int .i64 v3036.2]] (w31 N (lo := lo) (T38.mk o2960 x2967 x2979 x3009.1 v3036.2) (Fit.q (hf.kp hk3065) hb3066) hx3073) ?_
     rintro _ H3069 _ ⟨rfl, hk3070, rfl⟩
     have hb3074 := hk3070.get0 hb3066
     have hb3075 := hk3070.get0 hb3067
     have hk3076 := hk3065.trans hk3070
     refine oP (.bool (!x3072)) ?_
     refine oP (.bool (!x3072)) ?_
     rcases Bool.eq_false_or_eq_true (!x3072) with hg3077 | hg3077
     ·replace h := ocond_t h hg3077
      refine O_move (sl' := []) (.bool true) rfl (congrArg (fun b => some (AV.bool b)) hg3077) rfl rfl rfl ?_
      refine O_skip rfl rfl ?_
      refine O_skip rfl rfl ?_
      refine O_skip rfl rfl ?_
      refine O_skip rfl rfl ?_
      refine O_skip rfl rfl ?_
      refine O_skip rfl rfl ?_
      refine oP (.bool true) ?_
      refine O_nil ?_
      refine keep_to [(0, .ptr id0 0), (7, .ptr (b2951 + 0) 0), (104, .bool true)] [] rfl rfl ?_
      refine C_true rfl ?_
      refine C_seq ?_
      refine C_reg ?_
      refine oB (.bool false) ?_
      refine O_nil ?_
      refine keep_to [(4, .bool false)] [] rfl rfl ?_
      refine C_ret ?_
      obtain rfl := Option.some.inj h
      exact ⟨_, rfl, rfl, hb3074, hk3076, rfl⟩
     ·replace h := ocond_f h hg3077
      refine O_move (sl' := []) (.bool false) rfl (congrArg (fun b => some (AV.bool b)) hg3077) rfl rfl rfl ?_
      refine oM (.ptr id0 0) ?_
      refine oP (.ptr id0 0) ?_
      refine oP (.ptr id0 4) ?_
      refine oL (Sl.enc 38 T38.enc none) hb3074 ?_
      refine oP (.fn 42 [.ptr (b2951 + 0) 0]) ?_
      obtain ⟨x3081, hx3082, h⟩ := obind_some h
      refine oK [Sl.enc 38 T38.enc none, .fn 42 [.ptr (b2951 + 0) 0]] (w32_1 N (lo := lo) none o2960 x2967 x2979 x3009.1 v3036.2 hb3075 (Fit.q (hf.kp hk3076) hb3074) hx3082) ?_
      rintro _ H3078 _ ⟨rfl, hk3079, rfl⟩
      have hb3083 := hk3079.get0 hb3074
      have hb3084 := hk3079.get0 hb3075
      have hk3085 := hk3076.trans hk3079
      refine oP (.bool x3081) ?_
      refine O_nil ?_
      refine keep_to [(0, .ptr id0 0), (7, .ptr (b2951 + 0) 0), (104, .bool x3081)] [] rfl rfl ?_
      refine C_cond (x3081) rfl (fun hc3086 => ?_) (fun hc3086 => ?_)
      ·replace h := ocond_t h hc3086
       refine C_seq ?_
       refine C_reg ?_
       refine oB (.bool false) ?_
       refine O_nil ?_
       refine keep_to [(4, .bool false)] [] rfl rfl ?_
       refine C_ret ?_
       obtain rfl := Option.some.inj h
       exact ⟨_, rfl, rfl, hb3083, hk3085, rfl⟩
      ·replace h := ocond_f h hc3086
       refine C_skip ?_
       refine C_seq ?_
       refine C_draw0 none (m := false) rfl rfl rfl fun b3087 hb3088 => ?_
       refine oM (.ptr id0 0) ?_
       refine oM (.ptr id0 0) ?_
       refine oP (.ptr id0 0) ?_
       refine oP (.ptr id0 4) ?_
       refine O_load (cl' := cl) (sl' := []) (Sl.enc 38 T38.enc none) rfl rfl hb3083 rfl rfl rfl rfl (fun p h => ⟨h, fun _ e => hcl_id0 p.1 p.2 h (by rw [e])⟩) ?_
       refine oL (.agg [.str o2960, .int .i64 x2967, .int .i64 x2979, .int .i64 x3009.1, .int .i64 v3036.2]) hb3084 ?_
       refine O_bslice (sl' := [111]) [(0, .agg [.str o2960, .int .i64 x2967, .int .i64 x2979, .int .i64 x3009.1, .int .i64 v3036.2])] [.agg [.str o2960, .int .i64 x2967, .int .i64 x2979, .int .i64 x3009.1, .int .i64 v3036.2]] rfl rfl rfl rfl rfl rfl ?_
       obtain ⟨l3089, hx3090, h⟩ := obind_some h
       refine O_appNil (sl' := [112, 111]) (f := T38.enc) (some ([(T38.mk o2960 x2967 x2979 x3009.1 v3036.2)], [])) rfl rfl rfl rfl rfl rfl (tail_sl (y := (some ([(T38.mk o2960 x2967 x2979 x3009.1 v3036.2)], []))) (f := T38.enc) rfl rfl) rfl rfl rfl rfl hx3090 rfl rfl rfl ?_
       refine O_pure (sl' := [112, 111]) (.ptr id0 0) rfl rfl rfl rfl ?_
       refine O_pure (sl' := [112, 111]) (.ptr id0 4) rfl rfl rfl rfl ?_
       refine O_store (sl' := [111]) (cl' := clq l3089 id0 4 cl) (Sl.enc 38 T38.enc l3089) rfl rfl rfl hlo_id0 hb3083 (by cases l3089 <;> rfl) rfl (by intro q hq; simp only [List.mem_cons, List.not_mem_nil, or_false] at hq; rcases hq with rfl <;> exact ⟨by simp, fun _ e => by cases e⟩) (by intro i o h; rcases mem_clq (s := l3089) (id := id0) (o := 4) (cl := cl) h with ⟨e1, e2⟩ | h; exact .inl ⟨e1, e2, Sl.one_enc, 112, rfl, by simp⟩; exact .inr ⟨clq_sub (s := (none : Sl T38)) (id := id0) (o := 4) h, fun e => hcl_id0 i o h e.1⟩) fun H3091 hH3092 => ?_
       have hb3093 : H3091[id0]? = some (some ⟨25, [.int .i64 p0_0, .int .i64 p0_1, .int .i64 p0_2, .int .i64 p0_3, Sl.enc 38 T38.enc l3089]⟩) := by subst hH3092; rw [Sl.cells_enc]; exact get_set_same hb3083 _
       have hb3094 := getS hH3092 (fun e => hn2990 e.symm) hb3084
       have hk3095 := kpW hH3092 (by simp) hk3085
       refine O_nil ?_
       refine keep_to [] [] rfl rfl ?_
       refine C_seq ?_
       refine C_reg ?_
       refine oB (.bool true) ?_
       refine O_nil ?_
       refine keep_to [(4, .bool true)] [] rfl rfl ?_
       refine C_ret ?_
       obtain rfl := Option.some.inj h
       exact ⟨_, rfl, rfl, hb3093, hk3095, rfl⟩
/- freshet/job.operator -/
def s22_0s (N : Nat) (p0_0 : Int) (p0_1 : Int) (p0_2 : Int) (p0_3 : Int) (p0_4_q : List T38 × List T38) (p1 : (Sl Bs)) : Option (Bool × T25) :=
cond (decide ((Sl.len p1 : Int) < 5))
 (some (false, (T25.mk p0_0 p0_1 p0_2 p0_3 (some p0_4_q))))
 (Option.bind (Sl.get p1 0) fun o3284 =>
cond (!((o3284 : Bs) == [111, 112]))
 (some (false, (T25.mk p0_0 p0_1 p0_2 p0_3 (some p0_4_q))))
 (cond ((Sl.len (some p0_4_q) : Int) == 8)
 (some (false, (T25.mk p0_0 p0_1 p0_2 p0_3 (some p0_4_q))))
 (Option.bind (Sl.get p1 1) fun o3334 =>
Option.bind (Sl.get p1 2) fun o3336 =>
Option.bind (s41_0 N o3336) fun x3341 =>
Option.bind (Sl.get p1 3) fun o3348 =>
Option.bind (s41_1 N o3348) fun x3353 =>
Option.bind (Sl.get p1 4) fun o3378 =>
Option.bind (s40 N o3378) fun x3383 =>
jn (fun (v3410 : (Bool × Int)) =>
cond (!v3410.1)
 (some (false, (T25.mk p0_0 p0_1 p0_2 p0_3 (some p0_4_q))))
 (Option.bind (s31 N (T38.mk o3334 x3341 x3353 x3383.1 v3410.2)) fun x3446 =>
cond (!x3446)
 (some (false, (T25.mk p0_0 p0_1 p0_2 p0_3 (some p0_4_q))))
 (Option.bind (s32_1 N (some p0_4_q) o3334 x3341 x3353 x3383.1 v3410.2) fun x3455 =>
cond (x3455)
 (some (false, (T25.mk p0_0 p0_1 p0_2 p0_3 (some p0_4_q))))
 (Option.bind (Sl.app 48 (some p0_4_q) (some ([(T38.mk o3334 x3341 x3353 x3383.1 v3410.2)], []))) fun l3463 =>
some (true, (T25.mk p0_0 p0_1 p0_2 p0_3 l3463)))))) fun k3411 =>
cond ((((x3353 : Int) == 2) && (((Sl.len p1 : Int) == 6) && true)))
 (Option.bind (Sl.get p1 5) fun o3414 =>
Option.bind (s40 N o3414) fun x3419 =>
cond (x3383.2)
 (k3411 (x3419.2, x3419.1))
 (k3411 (false, x3419.1)))
 (cond (!((((x3353 : Int) == 1) && (((Sl.len p1 : Int) == 5) && true))))
 (cond (!((((x3353 : Int) == 3) && (((Sl.len p1 : Int) == 5) && true))))
 (some (false, (T25.mk p0_0 p0_1 p0_2 p0_3 (some p0_4_q))))
 (k3411 (x3383.2, 0)))
 (k3411 (x3383.2, 0))))))
set_option maxRecDepth 8000 in
set_option maxHeartbeats 4000000 in
theorem w22_0s (N : Nat) {lo : Nat} {cl : Cl} {H : Hp} (p0_0 : Int) (p0_1 : Int) (p0_2 : Int) (p0_3 : Int) (p0_4_q : List T38 × List T38) (p1 : (Sl Bs)) {id0 : Nat} (hb0 : H[id0]? = some (some ⟨25, [.int .i64 p0_0, .int .i64 p0_1, .int .i64 p0_2, .int .i64 p0_3, Sl.enc 38 T38.enc (some p0_4_q)]⟩)) (hlo_id0 : Nat.ble lo id0 = true) (hcl_id0 : ∀ i o, (i, o) ∈ cl → i ≠ id0) (hf : Fit lo cl H) {r : (Bool × T25)} (h : s22_0s N p0_0 p0_1 p0_2 p0_3 p0_4_q p1 = some r) : CallsR Tryd.prog (Kj lo) 22 [.ptr id0 0, Sl.enc 9 AV.str p1] H (clq (some p0_4_q) id0 4 cl) fun x H' cl' => x = .bool r.1 ∧ H'[id0]? = some (some ⟨25, [.int .i64 r.2.Groups, .int .i64 r.2.Sources, .int .i64 r.2.Bound, .int .i64 r.2.Late, Sl.enc 38 T38.enc r.2.Ops]⟩) ∧ Kp [id0] H H' ∧ clq r.2.Ops id0 4 cl = cl' := by
 refine calls_by Tryd.func22 rfl rfl rfl ?_
 unfold s22_0s at h
 have hk0 : Kp [id0] H H := Kp.refl H
 refine C_seq ?_
 refine C_reg ?_
 refine oB (.bool false) ?_
 refine O_nil ?_
 refine keep_to [(0, .ptr id0 0), (1, Sl.enc 9 AV.str p1)] [] rfl rfl ?_
 refine C_seq ?_
 refine C_seq ?_
 refine C_reg ?_
 refine oM (Sl.enc 9 AV.str p1) ?_
 refine oQ (.int .i64 (Sl.len p1)) (len_sl (f := AV.str) rfl rfl rfl rfl) ?_
 refine oP (.bool (decide ((Sl.len p1 : Int) < 5))) ?_
 rcases Bool.eq_false_or_eq_true (decide ((Sl.len p1 : Int) < 5)) with hg3283 | hg3283
 ·replace h := ocond_t h hg3283
  refine O_move (sl' := []) (.bool true) rfl (congrArg (fun b => some (AV.bool b)) hg3283) rfl rfl rfl ?_
  refine O_skip rfl rfl ?_
  refine O_skip rfl rfl ?_
  refine O_skip rfl rfl ?_
  refine O_skip rfl rfl ?_
  refine oP (.bool true) ?_
  refine oM (.bool true) ?_
  refine O_skip rfl rfl ?_
  refine O_skip rfl rfl ?_
  refine O_skip rfl rfl ?_
  refine O_skip rfl rfl ?_
  refine O_skip rfl rfl ?_
  refine O_skip rfl rfl ?_
  refine oP (.bool true) ?_
  refine O_nil ?_
  refine keep_to [(0, .ptr id0 0), (1, Sl.enc 9 AV.str p1), (29, .bool true)] [] rfl rfl ?_
  refine C_true rfl ?_
  refine C_seq ?_
  refine C_reg ?_
  refine oB (.bool false) ?_
  refine O_nil ?_
  refine keep_to [(4, .bool false)] [] rfl rfl ?_
  refine C_ret ?_
  obtain rfl := Option.some.inj h
  exact ⟨_, rfl, rfl, hb0, hk0, rfl⟩
 ·replace h := ocond_f h hg3283
  refine O_move (sl' := []) (.bool false) rfl (congrArg (fun b => some (AV.bool b)) hg3283) rfl rfl rfl ?_
  refine oM (Sl.enc 9 AV.str p1) ?_
  obtain ⟨o3284, hx3285, h⟩ := obind_some h
  refine oQ (.ept [.str o3284] 0) (idx_sl (f := AV.str) rfl rfl rfl hx3285) ?_
  refine oE (.str o3284) ?_
  refine oP (.bool (!((o3284 : Bs) == [111, 112]))) ?_
  refine oP (.bool (!((o3284 : Bs) == [111, 112]))) ?_
  rcases Bool.eq_false_or_eq_true (!((o3284 : Bs) == [111, 112])) with hg3286 | hg3286
  ·replace h := ocond_t h hg3286
   refine O_move (sl' := []) (.bool true) rfl (congrArg (fun b => some (AV.bool b)) hg3286) rfl rfl rfl ?_
   refine O_skip rfl rfl ?_
   refine O_skip rfl rfl ?_
   refine O_skip rfl rfl ?_
   refine O_skip rfl rfl ?_
   refine O_skip rfl rfl ?_
   refine O_skip rfl rfl ?_
   refine oP (.bool true) ?_
   refine O_nil ?_
   refine keep_to [(0, .ptr id0 0), (1, Sl.enc 9 AV.str p1), (29, .bool true)] [] rfl rfl ?_
   refine C_true rfl ?_
   refine C_seq ?_
   refine C_reg ?_
   refine oB (.bool false) ?_
   refine O_nil ?_
   refine keep_to [(4, .bool false)] [] rfl rfl ?_
   refine C_ret ?_
   obtain rfl := Option.some.inj h
   exact ⟨_, rfl, rfl, hb0, hk0, rfl⟩
  ·replace h := ocond_f h hg3286
   refine O_move (sl' := []) (.bool false) rfl (congrArg (fun b => some (AV.bool b)) hg3286) rfl rfl rfl ?_
   refine oM (.ptr id0 0) ?_
   refine oP (.ptr id0 0) ?_
   refine oP (.ptr id0 4) ?_
   refine O_load (cl' := clq (some p0_4_q) id0 4 cl) (sl' := []) (Sl.enc 38 T38.enc (some p0_4_q)) rfl rfl hb0 (by cases (some p0_4_q) <;> rfl) rfl rfl rfl (fun p h => ⟨h, fun e => by cases e⟩) ?_
   refine oQ (.int .i64 (Sl.len (some p0_4_q))) (len_sl (f := T38.enc) rfl rfl rfl rfl) ?_
   refine oP (.bool ((Sl.len (some p0_4_q) : Int) == 8)) ?_
   refine oP (.bool ((Sl.len (some p0_4_q) : Int) == 8)) ?_
   refine O_nil ?_
   refine keep_to [(0, .ptr id0 0), (1, Sl.enc 9 AV.str p1), (29, .bool ((Sl.len (some p0_4_q) : Int) == 8))] [] rfl rfl ?_
   refine C_cond ((Sl.len (some p0_4_q) : Int) == 8) rfl (fun hc3287 => ?_) (fun hc3287 => ?_)
   ·replace h := ocond_t h hc3287
    refine C_seq ?_
    refine C_reg ?_
    refine oB (.bool false) ?_
    refine O_nil ?_
    refine keep_to [(4, .bool false)] [] rfl rfl ?_
    refine C_ret ?_
    obtain rfl := Option.some.inj h
    exact ⟨_, rfl, rfl, hb0, hk0, rfl⟩
   ·replace h := ocond_f h hc3287
    refine C_skip ?_
    refine C_seq ?_
    refine C_reg ?_
    refine oK [] (w26 N (lo := lo) (Fit.q (hf.kp hk0) hb0)) ?_
    rintro _ H3288 _ ⟨rfl, hk3289, rfl⟩
    have hb3291 := hk3289.get0 hb0
    have hk3292 := hk0.trans hk3289
    refine oM (.tup [.agg [.str [], .str [99, 111, 117, 110, 116], .str [115, 117, 109], .str [109, 105, 110], .str [109, 97, 120], .str [108, 97, 115, 116], .str [108, 105, 115, 116], .str [100, 105, 115, 116, 105, 110, 99, 116], .str [115, 112, 105, 110]], .agg [.str [], .str [116, 117, 109, 98, 108, 105, 110, 103], .str [115, 108, 105, 100, 105, 110, 103], .str [115, 101, 115, 115, 105, 111, 110]]]) ?_
    refine oP (.agg [.str [], .str [99, 111, 117, 110, 116], .str [115, 117, 109], .str [109, 105, 110], .str [109, 97, 120], .str [108, 97, 115, 116], .str [108, 105, 115, 116], .str [100, 105, 115, 116, 105, 110, 99, 116], .str [115, 112, 105, 110]]) ?_
    refine oP (.agg [.str [], .str [116, 117, 109, 98, 108, 105, 110, 103], .str [115, 108, 105, 100, 105, 110, 103], .str [115, 101, 115, 115, 105, 111, 110]]) ?_
    refine oZ [.str [], .str [], .str [], .str [], .str [], .str [], .str [], .str [], .str []] fun id3295 H3293 hi3296 hH3297 => ?_
    have hb3294 : H3293[id3295]? = some (some ⟨55, [.str [], .str [], .str [], .str [], .str [], .str [], .str [], .str [], .str []]⟩) := getL hi3296 hH3297
    have ho3298 := Own.mk2 hf hk3292 (Nat.le_of_eq hi3296)
    have hn3299 := ne_of_lt hb3291 (Nat.le_of_eq hi3296)
    have hb3300 := getA hH3297 hb3291
    have hk3301 := kpA hH3297 hk3292
    refine oZ [.str [], .str [], .str [], .str []] fun id3304 H3302 hi3305 hH3306 => ?_
    have hb3303 : H3302[id3304]? = some (some ⟨56, [.str [], .str [], .str [], .str []]⟩) := getL hi3305 hH3306
    have ho3307 := Own.mk2 hf hk3301 (Nat.le_of_eq hi3305)
    have hn3308 := ne_of_lt hb3300 (Nat.le_of_eq hi3305)
    have hn3309 := ne_of_lt hb3294 (Nat.le_of_eq hi3305)
    have hb3310 := getA hH3306 hb3300
    have hb3311 := getA hH3306 hb3294
    have hk3312 := kpA hH3306 hk3301
    refine O_store (sl' := []) (cl' := clq (some p0_4_q) id0 4 cl) (.agg [.str [], .str [99, 111, 117, 110, 116], .str [115, 117, 109], .str [109, 105, 110], .str [109, 97, 120], .str [108, 97, 115, 116], .str [108, 105, 115, 116], .str [100, 105, 115, 116, 105, 110, 99, 116], .str [115, 112, 105, 110]]) rfl rfl rfl ho3298.lo hb3311 rfl rfl (fun q h => by cases h) (by intro i o h0; refine .inr ⟨h0, fun e => ?_⟩; rcases mem_clq (s := (some p0_4_q)) (id := id0) (o := 4) (cl := cl) h0 with ⟨e1, e2⟩ | h1; exact hn3299 (e1.symm.trans e.1); exact ho3298.cl i o h1 e.1) fun H3313 hH3314 => ?_
    have hb3315 : H3313[id3295]? = some (some ⟨55, [.str [], .str [99, 111, 117, 110, 116], .str [115, 117, 109], .str [109, 105, 110], .str [109, 97, 120], .str [108, 97, 115, 116], .str [108, 105, 115, 116], .str [100, 105, 115, 116, 105, 110, 99, 116], .str [115, 112, 105, 110]]⟩) := getW hH3314 hb3311
    have hb3316 := getS hH3314 hn3299 hb3310
    have hb3317 := getS hH3314 (fun e => hn3309 e.symm) hb3303
    have hk3318 := kpS hH3314 ho3298.ge hk3312
    refine O_store (sl' := []) (cl' := clq (some p0_4_q) id0 4 cl) (.agg [.str [], .str [116, 117, 109, 98, 108, 105, 110, 103], .str [115, 108, 105, 100, 105, 110, 103], .str [115, 101, 115, 115, 105, 111, 110]]) rfl rfl rfl ho3307.lo hb3317 rfl rfl (fun q h => by cases h) (by intro i o h0; refine .inr ⟨h0, fun e => ?_⟩; rcases mem_clq (s := (some p0_4_q)) (id := id0) (o := 4) (cl := cl) h0 with ⟨e1, e2⟩ | h1; exact hn3308 (e1.symm.trans e.1); exact ho3307.cl i o h1 e.1) fun H3319 hH3320 => ?_
    have hb3321 : H3319[id3304]? = some (some ⟨56, [.str [], .str [116, 117, 109, 98, 108, 105, 110, 103], .str [115, 108, 105, 100, 105, 110, 103], .str [115, 101, 115, 115, 105, 111, 110]]⟩) := getW hH3320 hb3317
    have hb3322 := getS hH3320 hn3308 hb3316
    have hb3323 := getS hH3320 hn3309 hb3315
    have hk3324 := kpS hH3320 ho3307.ge hk3318
    refine O_nil ?_
    refine keep_to [(0, .ptr id0 0), (1, Sl.enc 9 AV.str p1), (5, .ptr id3295 0), (6, .ptr id3304 0)] [] rfl rfl ?_
    refine C_seq ?_
    refine C_drawB none (m := true) (q := 1) rfl rfl rfl fun b3325 H3327 hb3326 hH3328 => ?_
    have hz3329 : H3327[b3325 + 0]? = some none := getZ hH3328 hb3326 (by decide)
    have hb3330 := getA hH3328 hb3322
    have hb3331 := getA hH3328 hb3323
    have hb3332 := getA hH3328 hb3321
    have hk3333 := kpA hH3328 hk3324
    refine oM (Sl.enc 9 AV.str p1) ?_
    obtain ⟨o3334, hx3335, h⟩ := obind_some h
    refine oQ (.ept [.str o3334] 0) (idx_sl (f := AV.str) rfl rfl rfl hx3335) ?_
    refine oE (.str o3334) ?_
    refine oP (.vw 9 id3295 0 9) ?_
    refine oM (Sl.enc 9 AV.str p1) ?_
    obtain ⟨o3336, hx3337, h⟩ := obind_some h
    refine oQ (.ept [.str o3336] 0) (idx_sl (f := AV.str) rfl rfl rfl hx3337) ?_
    refine oE (.str o3336) ?_
    obtain ⟨x3341, hx3342, h⟩ := obind_some h
    refine O_call (sl' := []) [.vw 9 id3295 0 9, .str o3336] rfl rfl rfl rfl (above_of (hf.kp hk3333)) rfl rfl (w41_0 N (lo := (max lo H3327.length)) o3336 hb3331 (Fit.q (hf.kp hk3333) hb3330).up hx3342) ?_
    rintro _ H3338 _ ⟨rfl, hk3339, rfl⟩
    have hz3343 : H3338[b3325 + 0]? = some none := hk3339.get0 hz3329
    have hb3344 := hk3339.get0 hb3330
    have hb3345 := hk3339.get0 hb3331
    have hb3346 := hk3339.get0 hb3332
    have hk3347 := hk3333.trans hk3339
    refine oP (.vw 9 id3304 0 4) ?_
    refine oM (Sl.enc 9 AV.str p1) ?_
    obtain ⟨o3348, hx3349, h⟩ := obind_some h
    refine oQ (.ept [.str o3348] 0) (idx_sl (f := AV.str) rfl rfl rfl hx3349) ?_
    refine oE (.str o3348) ?_
    obtain ⟨x3353, hx3354, h⟩ := obind_some h
    refine O_call (sl' := []) [.vw 9 id3304 0 4, .str o3348] rfl rfl rfl rfl (above_of (hf.kp hk3347)) rfl rfl (w41_1 N (lo := (max lo H3338.length)) o3348 hb3346 (Fit.q (hf.kp hk3347) hb3344).up hx3354) ?_
    rintro _ H3350 _ ⟨rfl, hk3351, rfl⟩
    have hz3355 : H3350[b3325 + 0]? = some none := hk3351.get0 hz3343
    have hb3356 := hk3351.get0 hb3344
    have hb3357 := hk3351.get0 hb3345
    have hb3358 := hk3351.get0 hb3346
    have hk3359 := hk3347.trans hk3351
    refine oP (.agg [.int .i64 x3353, .int .i64 0, .int .i64 0]) ?_
    refine oP (.agg [.str o3334, .int .i64 x3341, .int .i64 x3353, .int .i64 0, .int .i64 0]) ?_
    refine O_allocD (sl' := []) (q := 0) [.str [], .int .i64 0, .int .i64 0, .int .i64 0, .int .i64 0] rfl rfl rfl rfl hz3355 rfl rfl fun H3360 hH3362 => ?_
    have hb3361 : H3360[(b3325 + 0)]? = some (some ⟨38, [.str [], .int .i64 0, .int .i64 0, .int .i64 0, .int .i64 0]⟩) := by subst hH3362; exact get_set_same hz3355 _
    have ho3363 : Am.Own lo cl H (b3325 + 0) := Own.mk2 hf hk3324 (by omega)
    have hn3364 : id0 ≠ (b3325 + 0) := ne_of_lt hb3322 (by omega)
    have hn3365 : id3295 ≠ (b3325 + 0) := ne_of_lt hb3323 (by omega)
    have hn3366 : id3304 ≠ (b3325 + 0) := ne_of_lt hb3321 (by omega)
    have hb3367 := getS hH3362 hn3364 hb3356
    have hb3368 := getS hH3362 hn3365 hb3357
    have hb3369 := getS hH3362 hn3366 hb3358
    have hk3370 := kpS hH3362 ho3363.ge hk3359
    refine O_store (sl' := []) (cl' := clq (some p0_4_q) id0 4 cl) (.agg [.str o3334, .int .i64 x3341, .int .i64 x3353, .int .i64 0, .int .i64 0]) rfl rfl rfl ho3363.lo hb3361 rfl rfl (fun q h => by cases h) (by intro i o h0; refine .inr ⟨h0, fun e => ?_⟩; rcases mem_clq (s := (some p0_4_q)) (id := id0) (o := 4) (cl := cl) h0 with ⟨e1, e2⟩ | h1; exact hn3364 (e1.symm.trans e.1); exact ho3363.cl i o h1 e.1) fun H3371 hH3372 => ?_
    have hb3373 : H3371[(b3325 + 0)]? = some (some ⟨38, [.str o3334, .int .i64 x3341, .int .i64 x3353, .int .i64 0, .int .i64 0]⟩) := getW hH3372 hb3361
    have hb3374 := getS hH3372 hn3364 hb3367
    have hb3375 := getS hH3372 hn3365 hb3368
    have hb3376 := getS hH3372 hn3366 hb3369
    have hk3377 := kpS hH3372 ho3363.ge hk3370
    refine O_nil ?_
    refine keep_to [(0, .ptr id0 0), (1, Sl.enc 9 AV.str p1), (7, .ptr (b3325 + 0) 0)] [] rfl rfl ?_
    refine C_seq ?_
    refine C_reg ?_
    refine oM (Sl.enc 9 AV.str p1) ?_
    obtain ⟨o3378, hx3379, h⟩ := obind_some h
    refine oQ (.ept [.str o3378] 0) (idx_sl (f := AV.str) rfl rfl rfl hx3379) ?_
    refine oE (.str o3378) ?_
    obtain ⟨x3383, hx3384, h⟩ := obind_some h
    refine oK [.str o3378] (w40 N (lo := lo) o3378 (Fit.q (hf.kp hk3377) hb3374) hx3384) ?_
    rintro _ H3380 _ ⟨rfl, hk3381, rfl⟩
    have hb3385 := hk3381.get0 hb3374
    have hb3386 := hk3381.get0 hb3373
    have hk3387 := hk3377.trans hk3381
    refine oM (.tup [.int .i64 x3383.1, .bool x3383.2]) ?_
    refine oP (.int .i64 x3383.1) ?_
    refine oP (.bool x3383.2) ?_
    refine oA (.int .i64 x3383.1) ?_
    refine oA (.bool x3383.2) ?_
    refine O_nil ?_
    refine keep_to [(0, .ptr id0 0), (1, Sl.enc 9 AV.str p1), (7, .ptr (b3325 + 0) 0), (8, .int .i64 x3383.1), (9, .bool x3383.2)] [] rfl rfl ?_
    refine C_seq ?_
    refine C_reg ?_
    refine oM (.int .i64 x3383.1) ?_
    refine oP (.ptr (b3325 + 0) 2) ?_
    refine oP (.ptr (b3325 + 0) 3) ?_
    refine O_store (sl' := []) (cl' := clq (some p0_4_q) id0 4 cl) (.int .i64 x3383.1) rfl rfl rfl ho3363.lo hb3386 rfl rfl (fun q h => by cases h) (by intro i o h0; refine .inr ⟨h0, fun e => ?_⟩; rcases mem_clq (s := (some p0_4_q)) (id := id0) (o := 4) (cl := cl) h0 with ⟨e1, e2⟩ | h1; exact hn3364 (e1.symm.trans e.1); exact ho3363.cl i o h1 e.1) fun H3388 hH3389 => ?_
    have hb3390 : H3388[(b3325 + 0)]? = some (some ⟨38, [.str o3334, .int .i64 x3341, .int .i64 x3353, .int .i64 x3383.1, .int .i64 0]⟩) := getW hH3389 hb3386
    have hb3391 := getS hH3389 hn3364 hb3385
    have hk3392 := kpS hH3389 ho3363.ge hk3387
    refine O_nil ?_
    refine keep_to [(0, .ptr id0 0), (1, Sl.enc 9 AV.str p1), (7, .ptr (b3325 + 0) 0), (9, .bool x3383.2)] [] rfl rfl ?_
    refine C_seq ?_
    refine C_reg ?_
    refine oP (.ptr (b3325 + 0) 2) ?_
    refine oP (.ptr (b3325 + 0) 2) ?_
    refine oL (.int .i64 x3353) hb3390 ?_
    refine oM (Sl.enc 9 AV.str p1) ?_
    refine oQ (.int .i64 (Sl.len p1)) (len_sl (f := AV.str) rfl rfl rfl rfl) ?_
    refine oP (.agg [.int .i64 x3353, .int .i64 (Sl.len p1)]) ?_
    refine oZ [.int .i64 0, .int .i64 0] fun id3395 H3393 hi3396 hH3397 => ?_
    have hb3394 : H3393[id3395]? = some (some ⟨75, [.int .i64 0, .int .i64 0]⟩) := getL hi3396 hH3397
    have ho3398 := Own.mk2 hf hk3392 (Nat.le_of_eq hi3396)
    have hn3399 := ne_of_lt hb3391 (Nat.le_of_eq hi3396)
    have hn3400 := ne_of_lt hb3390 (Nat.le_of_eq hi3396)
    have hb3401 := getA hH3397 hb3391
    have hb3402 := getA hH3397 hb3390
    have hk3403 := kpA hH3397 hk3392
    refine O_store (sl' := []) (cl' := clq (some p0_4_q) id0 4 cl) (.agg [.int .i64 x3353, .int .i64 (Sl.len p1)]) rfl rfl rfl ho3398.lo hb3394 rfl rfl (fun q h => by cases h) (by intro i o h0; refine .inr ⟨h0, fun e => ?_⟩; rcases mem_clq (s := (some p0_4_q)) (id := id0) (o := 4) (cl := cl) h0 with ⟨e1, e2⟩ | h1; exact hn3399 (e1.symm.trans e.1); exact ho3398.cl i o h1 e.1) fun H3404 hH3405 => ?_
    have hb3406 : H3404[id3395]? = some (some ⟨75, [.int .i64 x3353, .int .i64 (Sl.len p1)]⟩) := getW hH3405 hb3394
    have hb3407 := getS hH3405 hn3399 hb3401
    have hb3408 := getS hH3405 hn3400 hb3402
    have hk3409 := kpS hH3405 ho3398.ge hk3403
    refine O_nil ?_
    refine keep_to [(0, .ptr id0 0), (1, Sl.enc 9 AV.str p1), (7, .ptr (b3325 + 0) 0), (9, .bool x3383.2), (10, .ptr id3395 0)] [] rfl rfl ?_
    obtain ⟨k3411, hk3412, h⟩ := jn_some h
    refine C_join [0, 7, 9] (fun env' H' sl' cl' => ∃ v3410 : (Bool × Int), env' = [(0, .ptr id0 0), (7, .ptr (b3325 + 0) 0), (9, .bool v3410.1)] ∧ sl' = [] ∧ clq (some p0_4_q) id0 4 cl = cl' ∧ Kp [id0] H H' ∧ H'[id0]? = some (some ⟨25, [.int .i64 p0_0, .int .i64 p0_1, .int .i64 p0_2, .int .i64 p0_3, Sl.enc 38 T38.enc (some p0_4_q)]⟩) ∧ H'[(b3325 + 0)]? = some (some ⟨38, [.str o3334, .int .i64 x3341, .int .i64 x3353, .int .i64 x3383.1, .int .i64 v3410.2]⟩) ∧ k3411 v3410 = some r) ?_ ?_
    ·refine C_seq ?_
     refine C_reg ?_
     refine oL (.agg [.int .i64 x3353, .int .i64 (Sl.len p1)]) hb3406 ?_
     refine oP (.agg [.int .i64 2, .int .i64 6]) ?_
     refine oQ (.bool (((x3353 : Int) == 2) && (((Sl.len p1 : Int) == 6) && true))) (eq_agg (b := (((x3353 : Int) == 2) && (((Sl.len p1 : Int) == 6) && true))) rfl rfl eg75 (eqIn_array rfl rfl (eqe_cons rfl rfl (eqIn_int rfl) (eqe_cons rfl rfl (eqIn_int rfl) eqe_nil)))) ?_
     refine O_nil ?_
     refine keep_to [(0, .ptr id0 0), (1, Sl.enc 9 AV.str p1), (7, .ptr (b3325 + 0) 0), (9, .bool x3383.2), (10, .ptr id3395 0), (67, .bool (((x3353 : Int) == 2) && (((Sl.len p1 : Int) == 6) && true)))] [] rfl rfl ?_
     refine C_cond ((((x3353 : Int) == 2) && (((Sl.len p1 : Int) == 6) && true))) rfl (fun hc3413 => ?_) (fun hc3413 => ?_)
     ·replace h := ocond_t h hc3413
      refine C_seq ?_
      refine C_reg ?_
      refine oM (Sl.enc 9 AV.str p1) ?_
      obtain ⟨o3414, hx3415, h⟩ := obind_some h
      refine oQ (.ept [.str o3414] 0) (idx_sl (f := AV.str) rfl rfl rfl hx3415) ?_
      refine oE (.str o3414) ?_
      obtain ⟨x3419, hx3420, h⟩ := obind_some h
      refine oK [.str o3414] (w40 N (lo := lo) o3414 (Fit.q (hf.kp hk3409) hb3407) hx3420) ?_
      rintro _ H3416 _ ⟨rfl, hk3417, rfl⟩
      have hb3421 := hk3417.get0 hb3407
      have hb3422 := hk3417.get0 hb3408
      have hb3423 := hk3417.get0 hb3406
      have hk3424 := hk3409.trans hk3417
      refine oM (.tup [.int .i64 x3419.1, .bool x3419.2]) ?_
      refine oP (.int .i64 x3419.1) ?_
      refine oP (.bool x3419.2) ?_
      refine oA (.int .i64 x3419.1) ?_
      refine oA (.bool x3419.2) ?_
      refine O_nil ?_
      refine keep_to [(0, .ptr id0 0), (7, .ptr (b3325 + 0) 0), (9, .bool x3383.2), (11, .int .i64 x3419.1), (12, .bool x3419.2)] [] rfl rfl ?_
      refine C_reg ?_
      refine oM (.int .i64 x3419.1) ?_
      refine oM (.bool x3383.2) ?_
      rcases Bool.eq_false_or_eq_true (x3383.2) with hg3425 | hg3425
      ·replace h := ocond_t h hg3425
       refine O_move (sl' := []) (.bool true) rfl (congrArg (fun b => some (AV.bool b)) hg3425) rfl rfl rfl ?_
       refine oM (.bool x3419.2) ?_
       refine oP (.bool x3419.2) ?_
       refine oP (.ptr (b3325 + 0) 2) ?_
       refine oP (.ptr (b3325 + 0) 4) ?_
       refine O_store (sl' := []) (cl' := clq (some p0_4_q) id0 4 cl) (.int .i64 x3419.1) rfl rfl rfl ho3363.lo hb3422 rfl rfl (fun q h => by cases h) (by intro i o h0; refine .inr ⟨h0, fun e => ?_⟩; rcases mem_clq (s := (some p0_4_q)) (id := id0) (o := 4) (cl := cl) h0 with ⟨e1, e2⟩ | h1; exact hn3364 (e1.symm.trans e.1); exact ho3363.cl i o h1 e.1) fun H3426 hH3427 => ?_
       have hb3428 : H3426[(b3325 + 0)]? = some (some ⟨38, [.str o3334, .int .i64 x3341, .int .i64 x3353, .int .i64 x3383.1, .int .i64 x3419.1]⟩) := getW hH3427 hb3422
       have hb3429 := getS hH3427 hn3364 hb3421
       have hk3430 := kpS hH3427 ho3363.ge hk3424
       refine oA (.bool x3419.2) ?_
       refine O_nil ?_
       refine keep_to [(0, .ptr id0 0), (7, .ptr (b3325 + 0) 0), (9, .bool x3419.2)] [] rfl rfl ?_
       exact ⟨_, rfl, rfl, rfl, hk3430, hb3429, hb3428, h⟩
      ·replace h := ocond_f h hg3425
       refine O_move (sl' := []) (.bool false) rfl (congrArg (fun b => some (AV.bool b)) hg3425) rfl rfl rfl ?_
       refine O_skip rfl rfl ?_
       refine oP (.bool false) ?_
       refine oP (.ptr (b3325 + 0) 2) ?_
       refine oP (.ptr (b3325 + 0) 4) ?_
       refine O_store (sl' := []) (cl' := clq (some p0_4_q) id0 4 cl) (.int .i64 x3419.1) rfl rfl rfl ho3363.lo hb3422 rfl rfl (fun q h => by cases h) (by intro i o h0; refine .inr ⟨h0, fun e => ?_⟩; rcases mem_clq (s := (some p0_4_q)) (id := id0) (o := 4) (cl := cl) h0 with ⟨e1, e2⟩ | h1; exact hn3364 (e1.symm.trans e.1); exact ho3363.cl i o h1 e.1) fun H3431 hH3432 => ?_
       have hb3433 : H3431[(b3325 + 0)]? = some (some ⟨38, [.str o3334, .int .i64 x3341, .int .i64 x3353, .int .i64 x3383.1, .int .i64 x3419.1]⟩) := getW hH3432 hb3422
       have hb3434 := getS hH3432 hn3364 hb3421
       have hk3435 := kpS hH3432 ho3363.ge hk3424
       refine oA (.bool false) ?_
       refine O_nil ?_
       refine keep_to [(0, .ptr id0 0), (7, .ptr (b3325 + 0) 0), (9, .bool false)] [] rfl rfl ?_
       exact ⟨_, rfl, rfl, rfl, hk3435, hb3434, hb3433, h⟩
     ·replace h := ocond_f h hc3413
      refine C_seq ?_
      refine C_reg ?_
      refine oL (.agg [.int .i64 x3353, .int .i64 (Sl.len p1)]) hb3406 ?_
      refine oP (.agg [.int .i64 1, .int .i64 5]) ?_
      refine oQ (.bool (!((((x3353 : Int) == 1) && (((Sl.len p1 : Int) == 5) && true))))) (neq_agg (b := (((x3353 : Int) == 1) && (((Sl.len p1 : Int) == 5) && true))) rfl rfl eg75 (eqIn_array rfl rfl (eqe_cons rfl rfl (eqIn_int rfl) (eqe_cons rfl rfl (eqIn_int rfl) eqe_nil)))) ?_
      rcases Bool.eq_false_or_eq_true (!((((x3353 : Int) == 1) && (((Sl.len p1 : Int) == 5) && true)))) with hg3436 | hg3436
      ·replace h := ocond_t h hg3436
       refine O_move (sl' := []) (.bool true) rfl (congrArg (fun b => some (AV.bool b)) hg3436) rfl rfl rfl ?_
       refine oL (.agg [.int .i64 x3353, .int .i64 (Sl.len p1)]) hb3406 ?_
       refine oP (.agg [.int .i64 3, .int .i64 5]) ?_
       refine oQ (.bool (!((((x3353 : Int) == 3) && (((Sl.len p1 : Int) == 5) && true))))) (neq_agg (b := (((x3353 : Int) == 3) && (((Sl.len p1 : Int) == 5) && true))) rfl rfl eg75 (eqIn_array rfl rfl (eqe_cons rfl rfl (eqIn_int rfl) (eqe_cons rfl rfl (eqIn_int rfl) eqe_nil)))) ?_
       refine oP (.bool (!((((x3353 : Int) == 3) && (((Sl.len p1 : Int) == 5) && true))))) ?_
       refine O_nil ?_
       refine keep_to [(0, .ptr id0 0), (7, .ptr (b3325 + 0) 0), (9, .bool x3383.2), (89, .bool (!((((x3353 : Int) == 3) && (((Sl.len p1 : Int) == 5) && true)))))] [] rfl rfl ?_
       refine C_cond (!((((x3353 : Int) == 3) && (((Sl.len p1 : Int) == 5) && true)))) rfl (fun hc3437 => ?_) (fun hc3437 => ?_)
       ·replace h := ocond_t h hc3437
        refine C_seq ?_
        refine C_reg ?_
        refine oB (.bool false) ?_
        refine O_nil ?_
        refine keep_to [(4, .bool false)] [] rfl rfl ?_
        refine C_ret ?_
        obtain rfl := Option.some.inj h
        exact ⟨_, rfl, rfl, hb3407, hk3409, rfl⟩
       ·replace h := ocond_f h hc3437
        refine C_skip ?_
        exact ⟨_, rfl, rfl, rfl, hk3409, hb3407, hb3408, h⟩
      ·replace h := ocond_f h hg3436
       refine O_move (sl' := []) (.bool false) rfl (congrArg (fun b => some (AV.bool b)) hg3436) rfl rfl rfl ?_
       refine O_skip rfl rfl ?_
       refine O_skip rfl rfl ?_
       refine O_skip rfl rfl ?_
       refine oP (.bool false) ?_
       refine O_nil ?_
       refine keep_to [(0, .ptr id0 0), (7, .ptr (b3325 + 0) 0), (9, .bool x3383.2), (89, .bool false)] [] rfl rfl ?_
       refine C_false rfl ?_
       refine C_skip ?_
       exact ⟨_, rfl, rfl, rfl, hk3409, hb3407, hb3408, h⟩
    ·rintro _ H3438 _ _ ⟨v3410, rfl, rfl, rfl, hk3439, hb3440, hb3441, h⟩
     subst hk3412
     refine C_seq ?_
     refine C_seq ?_
     refine C_reg ?_
     refine oM (.bool v3410.1) ?_
     refine oP (.bool (!v3410.1)) ?_
     rcases Bool.eq_false_or_eq_true (!v3410.1) with hg3442 | hg3442
     ·replace h := ocond_t h hg3442
      refine O_move (sl' := []) (.bool true) rfl (congrArg (fun b => some (AV.bool b)) hg3442) rfl rfl rfl ?_
      refine O_skip rfl rfl ?_
      refine O_skip rfl rfl ?_
      refine O_skip rfl rfl ?_
      refine oP (.bool true) ?_
      refine oM (.bool true) ?_
      refine O_skip rfl rfl ?_
      refine O_skip rfl rfl ?_
      refine O_skip rfl rfl ?_
      refine O_skip rfl rfl ?_
      refine O_skip rfl rfl ?_
      refine O_skip rfl rfl ?_
      refine oP (.bool true) ?_
      refine O_nil ?_
      refine keep_to [(0, .ptr id0 0), (7, .ptr (b3325 + 0) 0), (104, .bool true)] [] rfl rfl ?_
      refine C_true rfl ?_
      refine C_seq ?_
      refine C_reg ?_
      refine oB (.bool false) ?_
      refine O_nil ?_
      refine keep_to [(4, .bool false)] [] rfl rfl ?_
      refine C_ret ?_
      obtain rfl := Option.some.inj h
      exact ⟨_, rfl, rfl, hb3440, hk3439, rfl⟩
     ·replace h := ocond_f h hg3442
      refine O_move (sl' := []) (.bool false) rfl (congrArg (fun b => some (AV.bool b)) hg3442) rfl rfl rfl ?_
      refine oL (.agg [.str o3334, .int .i64 x3341, .int .i64 x3353, .int .i64 x3383.1, .int .i64 v3410.2]) hb3441 ?_
      obtain ⟨x3446, hx3447, h⟩ := obind_some h
      refine oK [.agg [.str o3334, .int .i64 x3341, .int .i64 x3353, .int .i64 x3383.1, .int .i64 v3410.2]] (w31 N (lo := lo) (T38.mk o3334 x3341 x3353 x3383.1 v3410.2) (Fit.q (hf.kp hk3439) hb3440) hx3447) ?_
      rintro _ H3443 _ ⟨rfl, hk3444, rfl⟩
      have hb3448 := hk3444.get0 hb3440
      have hb3449 := hk3444.get0 hb3441
      have hk3450 := hk3439.trans hk3444
      refine oP (.bool (!x3446)) ?_
      refine oP (.bool (!x3446)) ?_
      rcases Bool.eq_false_or_eq_true (!x3446) with hg3451 | hg3451
      ·replace h := ocond_t h hg3451
       refine O_move (sl' := []) (.bool true) rfl (congrArg (fun b => some (AV.bool b)) hg3451) rfl rfl rfl ?_
       refine O_skip rfl rfl ?_
       refine O_skip rfl rfl ?_
       refine O_skip rfl rfl ?_
       refine O_skip rfl rfl ?_
       refine O_skip rfl rfl ?_
       refine O_skip rfl rfl ?_
       refine oP (.bool true) ?_
       refine O_nil ?_
       refine keep_to [(0, .ptr id0 0), (7, .ptr (b3325 + 0) 0), (104, .bool true)] [] rfl rfl ?_
       refine C_true rfl ?_
       refine C_seq ?_
       refine C_reg ?_
       refine oB (.bool false) ?_
       refine O_nil ?_
       refine keep_to [(4, .bool false)] [] rfl rfl ?_
       refine C_ret ?_
       obtain rfl := Option.some.inj h
       exact ⟨_, rfl, rfl, hb3448, hk3450, rfl⟩
      ·replace h := ocond_f h hg3451
       refine O_move (sl' := []) (.bool false) rfl (congrArg (fun b => some (AV.bool b)) hg3451) rfl rfl rfl ?_
       refine oM (.ptr id0 0) ?_
       refine oP (.ptr id0 0) ?_
       refine oP (.ptr id0 4) ?_
       refine O_load (cl' := clq (some p0_4_q) id0 4 cl) (sl' := []) (Sl.enc 38 T38.enc (some p0_4_q)) rfl rfl hb3448 (by cases (some p0_4_q) <;> rfl) rfl rfl rfl (fun p h => ⟨h, fun e => by cases e⟩) ?_
       refine oP (.fn 42 [.ptr (b3325 + 0) 0]) ?_
       obtain ⟨x3455, hx3456, h⟩ := obind_some h
       refine oK [Sl.enc 38 T38.enc (some p0_4_q), .fn 42 [.ptr (b3325 + 0) 0]] (w32_1 N (lo := lo) (some p0_4_q) o3334 x3341 x3353 x3383.1 v3410.2 hb3449 (Fit.q (hf.kp hk3450) hb3448) hx3456) ?_
       rintro _ H3452 _ ⟨rfl, hk3453, rfl⟩
       have hb3457 := hk3453.get0 hb3448
       have hb3458 := hk3453.get0 hb3449
       have hk3459 := hk3450.trans hk3453
       refine oP (.bool x3455) ?_
       refine O_nil ?_
       refine keep_to [(0, .ptr id0 0), (7, .ptr (b3325 + 0) 0), (104, .bool x3455)] [] rfl rfl ?_
       refine C_cond (x3455) rfl (fun hc3460 => ?_) (fun hc3460 => ?_)
       ·replace h := ocond_t h hc3460
        refine C_seq ?_
        refine C_reg ?_
        refine oB (.bool false) ?_
        refine O_nil ?_
        refine keep_to [(4, .bool false)] [] rfl rfl ?_
        refine C_ret ?_
        obtain rfl := Option.some.inj h
        exact ⟨_, rfl, rfl, hb3457, hk3459, rfl⟩
       ·replace h := ocond_f h hc3460
        refine C_skip ?_
        refine C_seq ?_
        refine C_draw0 none (m := false) rfl rfl rfl fun b3461 hb3462 => ?_
        refine oM (.ptr id0 0) ?_
        refine oM (.ptr id0 0) ?_
        refine oP (.ptr id0 0) ?_
        refine oP (.ptr id0 4) ?_
        refine O_loadO (sl' := [109]) (cl' := cl) (Sl.enc 38 T38.enc (some p0_4_q)) rfl rfl hb3457 rfl rfl rfl rfl rfl List.mem_cons_self (fun p h => ⟨List.mem_cons_of_mem _ h, fun e => hcl_id0 p.1 p.2 h (by rw [e])⟩) ?_
        refine O_load (cl' := cl) (sl' := [109]) (.agg [.str o3334, .int .i64 x3341, .int .i64 x3353, .int .i64 x3383.1, .int .i64 v3410.2]) rfl rfl hb3458 rfl rfl rfl rfl (fun p h => ⟨h, fun e => by cases e⟩) ?_
        refine O_bslice (sl' := [111, 109]) [(0, .agg [.str o3334, .int .i64 x3341, .int .i64 x3353, .int .i64 x3383.1, .int .i64 v3410.2])] [.agg [.str o3334, .int .i64 x3341, .int .i64 x3353, .int .i64 x3383.1, .int .i64 v3410.2]] rfl rfl rfl rfl rfl rfl ?_
        obtain ⟨l3463, hx3464, h⟩ := obind_some h
        refine O_app (sl' := [112, 111]) (f := T38.enc) (s := (some p0_4_q)) (some ([(T38.mk o3334 x3341 x3353 x3383.1 v3410.2)], [])) rfl rfl rfl rfl rfl rfl (tail_sl (y := (some ([(T38.mk o3334 x3341 x3353 x3383.1 v3410.2)], []))) (f := T38.enc) rfl rfl) rfl rfl rfl rfl rfl hx3464 rfl rfl rfl ?_
        refine O_pure (sl' := [112, 111]) (.ptr id0 0) rfl rfl rfl rfl ?_
        refine O_pure (sl' := [112, 111]) (.ptr id0 4) rfl rfl rfl rfl ?_
        refine O_store (sl' := [111]) (cl' := clq l3463 id0 4 cl) (Sl.enc 38 T38.enc l3463) rfl rfl rfl hlo_id0 hb3457 (by cases l3463 <;> rfl) rfl (by intro q hq; simp only [List.mem_cons, List.not_mem_nil, or_false] at hq; rcases hq with rfl <;> exact ⟨by simp, fun _ e => by cases e⟩) (by intro i o h; rcases mem_clq (s := l3463) (id := id0) (o := 4) (cl := cl) h with ⟨e1, e2⟩ | h; exact .inl ⟨e1, e2, Sl.one_enc, 112, rfl, by simp⟩; exact .inr ⟨h, fun e => hcl_id0 i o h e.1⟩) fun H3465 hH3466 => ?_
        have hb3467 : H3465[id0]? = some (some ⟨25, [.int .i64 p0_0, .int .i64 p0_1, .int .i64 p0_2, .int .i64 p0_3, Sl.enc 38 T38.enc l3463]⟩) := by subst hH3466; rw [Sl.cells_enc]; exact get_set_same hb3457 _
        have hb3468 := getS hH3466 (fun e => hn3364 e.symm) hb3458
        have hk3469 := kpW hH3466 (by simp) hk3459
        refine O_nil ?_
        refine keep_to [] [] rfl rfl ?_
        refine C_seq ?_
        refine C_reg ?_
        refine oB (.bool true) ?_
        refine O_nil ?_
        refine keep_to [(4, .bool true)] [] rfl rfl ?_
        refine C_ret ?_
        obtain rfl := Option.some.inj h
        exact ⟨_, rfl, rfl, hb3467, hk3469, rfl⟩
def s22_0 (N : Nat) (p0_0 : Int) (p0_1 : Int) (p0_2 : Int) (p0_3 : Int) (p0_4 : (Sl T38)) (p1 : (Sl Bs)) : Option (Bool × T25) :=
  match p0_4 with
  | none => s22_0n N p0_0 p0_1 p0_2 p0_3 p1
  | some p0_4_q => s22_0s N p0_0 p0_1 p0_2 p0_3 p0_4_q p1
set_option maxRecDepth 8000 in
theorem w22_0 (N : Nat) {lo : Nat} {cl : Cl} {H : Hp} (p0_0 : Int) (p0_1 : Int) (p0_2 : Int) (p0_3 : Int) (p0_4 : (Sl T38)) (p1 : (Sl Bs)) {id0 : Nat} (hb0 : H[id0]? = some (some ⟨25, [.int .i64 p0_0, .int .i64 p0_1, .int .i64 p0_2, .int .i64 p0_3, Sl.enc 38 T38.enc p0_4]⟩)) (hlo_id0 : Nat.ble lo id0 = true) (hcl_id0 : ∀ i o, (i, o) ∈ cl → i ≠ id0) (hf : Fit lo cl H) {r : (Bool × T25)} (h : s22_0 N p0_0 p0_1 p0_2 p0_3 p0_4 p1 = some r) : CallsR Tryd.prog (Kj lo) 22 [.ptr id0 0, Sl.enc 9 AV.str p1] H (clq p0_4 id0 4 cl) fun x H' cl' => x = .bool r.1 ∧ H'[id0]? = some (some ⟨25, [.int .i64 r.2.Groups, .int .i64 r.2.Sources, .int .i64 r.2.Bound, .int .i64 r.2.Late, Sl.enc 38 T38.enc r.2.Ops]⟩) ∧ Kp [id0] H H' ∧ clq r.2.Ops id0 4 cl = cl' := by
  cases p0_4 with
  | none => exact w22_0n N p0_0 p0_1 p0_2 p0_3 p1 hb0 hlo_id0 hcl_id0 hf h
  | some p0_4_q => exact w22_0s N p0_0 p0_1 p0_2 p0_3 p0_4_q p1 hb0 hlo_id0 hcl_id0 hf h
set_option linter.unusedVariables false in
def s10_l0 (N : Nat) (k2886 : (Int × Int × Int × Int × (Sl T38) × Int × Bs) → Option (T25 × Int × Int)) : Nat → Int → Int → Int → Int → (Sl T38) → Int → Bs → Option (T25 × Int × Int)
  | 0, _, _, _, _, _, _, _ => none
  | n + 1, wid2801_0, wid2801_1, wid2801_2, wid2801_3, wid2801_4, wid2828_0, wid2851_0 => (
cond (!((wid2851_0 : Bs) == []))
 (Option.bind (cutS wid2851_0 [10]) fun x2900 =>
Option.bind (splitS x2900.1 [32]) fun x2930 =>
Option.bind (cond (decide ((IntKind.wrap .i64 (wid2828_0 + 1) : Int) ≤ 4))
 (Option.bind (s21_1 N wid2801_0 wid2801_1 wid2801_2 wid2801_3 wid2801_4 (IntKind.wrap .i64 ((IntKind.wrap .i64 (wid2828_0 + 1)) - 1)) x2930) fun x2945 =>
some (x2945.1, x2945.2.Groups, x2945.2.Sources, x2945.2.Bound, x2945.2.Late, x2945.2.Ops))
 (Option.bind (s22_0 N wid2801_0 wid2801_1 wid2801_2 wid2801_3 wid2801_4 x2930) fun x2958 =>
some (x2958.1, x2958.2.Groups, x2958.2.Sources, x2958.2.Bound, x2958.2.Late, x2958.2.Ops))) fun (v2939 : (Bool × Int × Int × Int × Int × (Sl T38))) =>
Option.bind (cond (!v2939.1)
 (some true)
 (some (!x2900.2.2))) fun (v2976 : Bool) =>
cond (v2976)
 (some ((T25.mk 0 0 0 0 none), (IntKind.wrap .i64 (wid2828_0 + 1)), 7))
 (s10_l0 N k2886 n v2939.2.1 v2939.2.2.1 v2939.2.2.2.1 v2939.2.2.2.2.1 v2939.2.2.2.2.2 (IntKind.wrap .i64 (wid2828_0 + 1)) x2900.2.1))
 (k2886 (wid2801_0, wid2801_1, wid2801_2, wid2801_3, wid2801_4, wid2828_0, wid2851_0)))
/- freshet/job.Parse -/
def s10 (N : Nat) (p0 : Bs) : Option (T25 × Int × Int) :=
Option.bind (s19 N p0) fun x2849 =>
jn (fun (e2885 : (Int × Int × Int × Int × (Sl T38) × Int × Bs)) =>
cond (decide ((e2885.2.2.2.2.2.1 : Int) < 4))
 (some ((T25.mk 0 0 0 0 none), (IntKind.wrap .i64 (e2885.2.2.2.2.2.1 + 1)), 7))
 (some ((T25.mk e2885.1 e2885.2.1 e2885.2.2.1 e2885.2.2.2.1 e2885.2.2.2.2.1), 0, 0))) fun k2886 => s10_l0 N k2886 N 0 0 0 0 none 0 x2849
set_option maxRecDepth 8000 in
set_option maxHeartbeats 4000000 in
theorem w10 (N : Nat) {lo : Nat} {cl : Cl} {H : Hp} (p0 : Bs) (hf : Fit lo cl H) {r : (T25 × Int × Int)} (h : s10 N p0 = some r) : CallsR Tryd.prog (Kj lo) 10 [.str p0] H (cl) fun x H' cl' => x = .tup [.agg [.int .i64 r.1.Groups, .int .i64 r.1.Sources, .int .i64 r.1.Bound, .int .i64 r.1.Late, Sl.enc 38 T38.enc r.1.Ops], .int .i64 r.2.1, .int .i64 r.2.2] ∧ Kp [] H H' ∧ cl = cl' := by
 refine calls_by Tryd.func10 rfl rfl rfl ?_
 unfold s10 at h
 have hk0 : Kp [] H H := Kp.refl H
 refine C_seq ?_
 refine C_reg ?_
 refine oZ [.int .i64 0, .int .i64 0, .int .i64 0, .int .i64 0, Sl.enc 38 T38.enc none] fun id2801 H2799 hi2802 hH2803 => ?_
 have hb2800 : H2799[id2801]? = some (some ⟨25, [.int .i64 0, .int .i64 0, .int .i64 0, .int .i64 0, Sl.enc 38 T38.enc none]⟩) := getL hi2802 hH2803
 have ho2804 := Own.mk2 hf hk0 (Nat.le_of_eq hi2802)
 have hk2805 := kpA hH2803 hk0
 refine oZ [.int .i64 0] fun id2808 H2806 hi2809 hH2810 => ?_
 have hb2807 : H2806[id2808]? = some (some ⟨3, [.int .i64 0]⟩) := getL hi2809 hH2810
 have ho2811 := Own.mk2 hf hk2805 (Nat.le_of_eq hi2809)
 have hn2812 := ne_of_lt hb2800 (Nat.le_of_eq hi2809)
 have hb2813 := getA hH2810 hb2800
 have hk2814 := kpA hH2810 hk2805
 refine oZ [.int .i64 0] fun id2817 H2815 hi2818 hH2819 => ?_
 have hb2816 : H2815[id2817]? = some (some ⟨26, [.int .i64 0]⟩) := getL hi2818 hH2819
 have ho2820 := Own.mk2 hf hk2814 (Nat.le_of_eq hi2818)
 have hn2821 := ne_of_lt hb2813 (Nat.le_of_eq hi2818)
 have hn2822 := ne_of_lt hb2807 (Nat.le_of_eq hi2818)
 have hb2823 := getA hH2819 hb2813
 have hb2824 := getA hH2819 hb2807
 have hk2825 := kpA hH2819 hk2814
 refine O_nil ?_
 refine keep_to [(0, .str p0), (2, .ptr id2801 0), (3, .ptr id2808 0), (4, .ptr id2817 0)] [] rfl rfl ?_
 refine C_seq ?_
 refine C_reg ?_
 refine oZ [.int .i64 0] fun id2828 H2826 hi2829 hH2830 => ?_
 have hb2827 : H2826[id2828]? = some (some ⟨3, [.int .i64 0]⟩) := getL hi2829 hH2830
 have ho2831 := Own.mk2 hf hk2825 (Nat.le_of_eq hi2829)
 have hn2832 := ne_of_lt hb2823 (Nat.le_of_eq hi2829)
 have hn2833 := ne_of_lt hb2824 (Nat.le_of_eq hi2829)
 have hn2834 := ne_of_lt hb2816 (Nat.le_of_eq hi2829)
 have hb2835 := getA hH2830 hb2823
 have hb2836 := getA hH2830 hb2824
 have hb2837 := getA hH2830 hb2816
 have hk2838 := kpA hH2830 hk2825
 refine O_store (sl' := []) (cl' := clq (none : Sl T38) id2801 4 cl) (.int .i64 0) rfl rfl rfl ho2831.lo hb2827 rfl rfl (fun q h => by cases h) (by intro i o h0; refine .inr ⟨h0, fun e => ?_⟩; rcases mem_clq (s := (none : Sl T38)) (id := id2801) (o := 4) (cl := cl) h0 with ⟨e1, e2⟩ | h1; exact hn2832 (e1.symm.trans e.1); exact ho2831.cl i o h1 e.1) fun H2839 hH2840 => ?_
 have hb2841 : H2839[id2828]? = some (some ⟨3, [.int .i64 0]⟩) := getW hH2840 hb2827
 have hb2842 := getS hH2840 hn2832 hb2835
 have hb2843 := getS hH2840 hn2833 hb2836
 have hb2844 := getS hH2840 hn2834 hb2837
 have hk2845 := kpS hH2840 ho2831.ge hk2838
 refine O_nil ?_
 refine keep_to [(0, .str p0), (2, .ptr id2801 0), (3, .ptr id2808 0), (4, .ptr id2817 0), (5, .ptr id2828 0)] [] rfl rfl ?_
 refine C_seq ?_
 refine C_seq ?_
 refine C_reg ?_
 refine oM (.str p0) ?_
 obtain ⟨x2849, hx2850, h⟩ := obind_some h
 refine oK [.str p0] (w19 N (lo := lo) p0 (Fit.q (hf.kp hk2845) hb2842) hx2850) ?_
 rintro _ H2846 _ ⟨id2851, rfl, ho2852, hb2853, hk2847, rfl⟩
 have hn2854 : id2801 ≠ id2851 := ne_of_lt hb2842 ho2852
 have hn2855 : id2808 ≠ id2851 := ne_of_lt hb2843 ho2852
 have hn2856 : id2817 ≠ id2851 := ne_of_lt hb2844 ho2852
 have hn2857 : id2828 ≠ id2851 := ne_of_lt hb2841 ho2852
 have hb2858 := hk2847.get0 hb2842
 have hb2859 := hk2847.get0 hb2843
 have hb2860 := hk2847.get0 hb2844
 have hb2861 := hk2847.get0 hb2841
 have hk2862 := hk2845.trans hk2847
 have ho2863 : Am.Own lo cl H id2851 := Own.mk2 hf hk2845 ho2852
 refine O_nil ?_
 refine keep_to [(2, .ptr id2801 0), (3, .ptr id2808 0), (4, .ptr id2817 0), (5, .ptr id2828 0), (11, .fn 37 [.ptr id2851 0])] [] rfl rfl ?_
 refine C_block ?_
 refine C_rangeB rfl rfl rfl fun id2864 env2865 H2866 y2867 hi2868 hle2869 hH2870 hy2871 => ?_
 have hb2872 : H2866[id2864]? = some (recA 0 0 0 y2867) := by subst hi2868 hH2870; exact get_last _ _
 have ho2873 : Am.Own lo cl H id2864 := Own.mk2 hf hk2862 (Nat.le_of_eq hi2868)
 have hn2874 : id2801 ≠ id2864 := ne_of_lt hb2858 (Nat.le_of_eq hi2868)
 have hn2875 : id2808 ≠ id2864 := ne_of_lt hb2859 (Nat.le_of_eq hi2868)
 have hn2876 : id2817 ≠ id2864 := ne_of_lt hb2860 (Nat.le_of_eq hi2868)
 have hn2877 : id2828 ≠ id2864 := ne_of_lt hb2861 (Nat.le_of_eq hi2868)
 have hn2878 : id2851 ≠ id2864 := ne_of_lt hb2853 (Nat.le_of_eq hi2868)
 have hb2879 := getA hH2870 hb2858
 have hb2880 := getA hH2870 hb2859
 have hb2881 := getA hH2870 hb2860
 have hb2882 := getA hH2870 hb2861
 have hb2883 := getA hH2870 hb2853
 have hk2884 := kpA hH2870 hk2862
 refine calls_by Tryd.func37 rfl rfl rfl ?_
 refine C_block ?_
 obtain ⟨k2886, hk2887, h⟩ := jn_some h
 refine C_loopE [0, 1] (fun n env' H' sl' cl' => ∃ (wid2801_0 : Int), ∃ (wid2801_1 : Int), ∃ (wid2801_2 : Int), ∃ (wid2801_3 : Int), ∃ (wid2801_4 : (Sl T38)), ∃ (wid2828_0 : Int), ∃ (wid2851_0 : Bs), env' = [(0, .yld id2864), (1, .ptr id2851 0)] ∧ sl' = [] ∧ clq wid2801_4 id2801 4 cl = cl' ∧ Kp [] H H' ∧ H'[id2801]? = some (some ⟨25, [.int .i64 wid2801_0, .int .i64 wid2801_1, .int .i64 wid2801_2, .int .i64 wid2801_3, Sl.enc 38 T38.enc wid2801_4]⟩) ∧ H'[id2808]? = some (some ⟨3, [.int .i64 0]⟩) ∧ H'[id2817]? = some (some ⟨26, [.int .i64 0]⟩) ∧ H'[id2828]? = some (some ⟨3, [.int .i64 wid2828_0]⟩) ∧ H'[id2851]? = some (some ⟨9, [.str wid2851_0]⟩) ∧ H'[id2864]? = some (recA 0 0 0 y2867) ∧ s10_l0 N k2886 n wid2801_0 wid2801_1 wid2801_2 wid2801_3 wid2801_4 wid2828_0 wid2851_0 = some r) 0 [] (fun env' H' sl' cl' => ∃ (e2885 : (Int × Int × Int × Int × (Sl T38) × Int × Bs)), env' = [] ∧ sl' = [] ∧ clq e2885.2.2.2.2.1 id2801 4 cl = cl' ∧ Kp [] H H' ∧ H'[id2801]? = some (some ⟨25, [.int .i64 e2885.1, .int .i64 e2885.2.1, .int .i64 e2885.2.2.1, .int .i64 e2885.2.2.2.1, Sl.enc 38 T38.enc e2885.2.2.2.2.1]⟩) ∧ H'[id2808]? = some (some ⟨3, [.int .i64 0]⟩) ∧ H'[id2817]? = some (some ⟨26, [.int .i64 0]⟩) ∧ H'[id2828]? = some (some ⟨3, [.int .i64 e2885.2.2.2.2.2.1]⟩) ∧ H'[id2851]? = some (some ⟨9, [.str e2885.2.2.2.2.2.2]⟩) ∧ H'[id2864]? = some (recA 0 0 0 y2867) ∧ k2886 e2885 = some r) N ⟨0, 0, 0, 0, none, 0, x2849, rfl, rfl, rfl, hk2884, hb2879, hb2880, hb2881, hb2882, hb2883, hb2872, h⟩ ?_ ?_
 ·rintro n _ H2888 _ _ ⟨wid2801_0, wid2801_1, wid2801_2, wid2801_3, wid2801_4, wid2828_0, wid2851_0, rfl, rfl, rfl, hk2889, hb2890, hb2891, hb2892, hb2893, hb2894, hb2895, h⟩
  cases n with
  | zero => rw [s10_l0] at h; cases h
  | succ n =>
  rw [s10_l0] at h
  refine C_seq ?_
  refine C_seq ?_
  refine C_reg ?_
  refine oL (.str wid2851_0) hb2894 ?_
  refine oP (.bool (!((wid2851_0 : Bs) == []))) ?_
  refine O_nil ?_
  refine keep_to [(0, .yld id2864), (1, .ptr id2851 0), (7, .bool (!((wid2851_0 : Bs) == [])))] [] rfl rfl ?_
  refine C_cond (!((wid2851_0 : Bs) == [])) rfl (fun hc2896 => ?_) (fun hc2896 => ?_)
  ·replace h := ocond_t h hc2896
   refine C_skip ?_
   refine C_block ?_
   refine C_seq ?_
   refine C_reg ?_
   refine oL (.str wid2851_0) hb2894 ?_
   obtain ⟨x2900, hx2901, h⟩ := obind_some h
   refine oK [.str wid2851_0, .str [10]] (wCut (lo := lo) wid2851_0 [10] hx2901) ?_
   rintro _ H2897 _ ⟨rfl, hk2898, rfl⟩
   have hb2902 := hk2898.get0 hb2890
   have hb2903 := hk2898.get0 hb2891
   have hb2904 := hk2898.get0 hb2892
   have hb2905 := hk2898.get0 hb2893
   have hb2906 := hk2898.get0 hb2894
   have hb2907 := hk2898.get0 hb2895
   have hk2908 := hk2889.trans hk2898
   refine oM (.tup [.str x2900.1, .str x2900.2.1, .bool x2900.2.2]) ?_
   refine oP (.str x2900.1) ?_
   refine oP (.str x2900.2.1) ?_
   refine oP (.bool x2900.2.2) ?_
   refine oA (.str x2900.1) ?_
   refine oA (.str x2900.2.1) ?_
   refine oA (.bool x2900.2.2) ?_
   refine O_nil ?_
   refine keep_to [(0, .yld id2864), (1, .ptr id2851 0), (3, .str x2900.1), (4, .str x2900.2.1), (5, .bool x2900.2.2)] [] rfl rfl ?_
   refine C_seq ?_
   refine C_seq ?_
   refine C_reg ?_
   refine oM (.yld id2864) ?_
   refine oM (.str x2900.1) ?_
   refine oM (.bool x2900.2.2) ?_
   refine O_yieldC (sl' := []) [.str x2900.1, .bool x2900.2.2] rfl rfl rfl rfl rfl (yields_byY ho2873.lo hy2871 hb2907 hle2869 rfl ?_)
   refine C_seq ?_
   refine C_reg ?_
   refine oA (.str x2900.1) ?_
   refine O_nil ?_
   refine keep_to [(2, .ptr id2801 0), (3, .ptr id2808 0), (4, .ptr id2817 0), (5, .ptr id2828 0), (6, .str x2900.1), (13, .bool x2900.2.2)] [] rfl rfl ?_
   refine C_reg ?_
   refine oA (.bool x2900.2.2) ?_
   refine O_nil ?_
   refine keep_to [(2, .ptr id2801 0), (3, .ptr id2808 0), (4, .ptr id2817 0), (5, .ptr id2828 0), (6, .str x2900.1), (7, .bool x2900.2.2)] [] rfl rfl ?_
   refine ⟨_, _, hb2907, fun H2909 hH2910 => ?_⟩
   have hb2911 : H2909[id2864]? = some (recA 1 0 0 y2867) := by subst hH2910; exact get_set_same hb2907 _
   have hb2912 := getS hH2910 hn2874 hb2902
   have hb2913 := getS hH2910 hn2875 hb2903
   have hb2914 := getS hH2910 hn2876 hb2904
   have hb2915 := getS hH2910 hn2877 hb2905
   have hb2916 := getS hH2910 hn2878 hb2906
   have hk2917 := kpS hH2910 ho2873.ge hk2908
   refine C_block ?_
   refine C_seq ?_
   refine C_reg ?_
   refine oL (.int .i64 wid2828_0) hb2915 ?_
   refine oP (.int .i64 (IntKind.wrap .i64 (wid2828_0 + 1))) ?_
   refine O_store (sl' := []) (cl' := clq wid2801_4 id2801 4 cl) (.int .i64 (IntKind.wrap .i64 (wid2828_0 + 1))) rfl rfl rfl ho2831.lo hb2915 rfl rfl (fun q h => by cases h) (by intro i o h0; refine .inr ⟨h0, fun e => ?_⟩; rcases mem_clq (s := wid2801_4) (id := id2801) (o := 4) (cl := cl) h0 with ⟨e1, e2⟩ | h1; exact hn2832 (e1.symm.trans e.1); exact ho2831.cl i o h1 e.1) fun H2918 hH2919 => ?_
   have hb2920 : H2918[id2828]? = some (some ⟨3, [.int .i64 (IntKind.wrap .i64 (wid2828_0 + 1))]⟩) := getW hH2919 hb2915
   have hb2921 := getS hH2919 hn2832 hb2912
   have hb2922 := getS hH2919 hn2833 hb2913
   have hb2923 := getS hH2919 hn2834 hb2914
   have hb2924 := getS hH2919 (fun e => hn2857 e.symm) hb2916
   have hb2925 := getS hH2919 (fun e => hn2877 e.symm) hb2911
   have hk2926 := kpS hH2919 ho2831.ge hk2917
   refine O_nil ?_
   refine keep_to [(2, .ptr id2801 0), (3, .ptr id2808 0), (4, .ptr id2817 0), (5, .ptr id2828 0), (6, .str x2900.1), (7, .bool x2900.2.2)] [] rfl rfl ?_
   refine C_seq ?_
   refine C_reg ?_
   refine oM (.str x2900.1) ?_
   obtain ⟨x2930, hx2931, h⟩ := obind_some h
   refine oK [.str x2900.1, .str [32]] (wSplit (lo := lo) x2900.1 [32] hx2931) ?_
   rintro _ H2927 _ ⟨rfl, hk2928, rfl⟩
   have hb2932 := hk2928.get0 hb2921
   have hb2933 := hk2928.get0 hb2922
   have hb2934 := hk2928.get0 hb2923
   have hb2935 := hk2928.get0 hb2920
   have hb2936 := hk2928.get0 hb2924
   have hb2937 := hk2928.get0 hb2925
   have hk2938 := hk2926.trans hk2928
   refine oA (Sl.enc 9 AV.str x2930) ?_
   refine O_nil ?_
   refine keep_to [(2, .ptr id2801 0), (3, .ptr id2808 0), (4, .ptr id2817 0), (5, .ptr id2828 0), (7, .bool x2900.2.2), (8, Sl.enc 9 AV.str x2930)] [] rfl rfl ?_
   refine C_seq ?_
   refine C_reg ?_
   refine oB (.bool false) ?_
   refine O_nil ?_
   refine keep_to [(2, .ptr id2801 0), (3, .ptr id2808 0), (4, .ptr id2817 0), (5, .ptr id2828 0), (7, .bool x2900.2.2), (8, Sl.enc 9 AV.str x2930)] [] rfl rfl ?_
   obtain ⟨v2939, h2940, h⟩ := obind_some h
   refine C_join [2, 3, 4, 5, 7, 9] (fun env' H' sl' cl' => env' = [(2, .ptr id2801 0), (3, .ptr id2808 0), (4, .ptr id2817 0), (5, .ptr id2828 0), (7, .bool x2900.2.2), (9, .bool v2939.1)] ∧ sl' = [] ∧ clq v2939.2.2.2.2.2 id2801 4 cl = cl' ∧ Kp [] H H' ∧ H'[id2801]? = some (some ⟨25, [.int .i64 v2939.2.1, .int .i64 v2939.2.2.1, .int .i64 v2939.2.2.2.1, .int .i64 v2939.2.2.2.2.1, Sl.enc 38 T38.enc v2939.2.2.2.2.2]⟩) ∧ H'[id2808]? = some (some ⟨3, [.int .i64 0]⟩) ∧ H'[id2817]? = some (some ⟨26, [.int .i64 0]⟩) ∧ H'[id2828]? = some (some ⟨3, [.int .i64 (IntKind.wrap .i64 (wid2828_0 + 1))]⟩) ∧ H'[id2851]? = some (some ⟨9, [.str wid2851_0]⟩) ∧ H'[id2864]? = some (recA 1 0 0 y2867)) ?_ ?_
   ·refine C_seq ?_
    refine C_reg ?_
    refine oL (.int .i64 (IntKind.wrap .i64 (wid2828_0 + 1))) hb2935 ?_
    refine oP (.bool (decide ((IntKind.wrap .i64 (wid2828_0 + 1) : Int) ≤ 4))) ?_
    refine O_nil ?_
    refine keep_to [(2, .ptr id2801 0), (3, .ptr id2808 0), (4, .ptr id2817 0), (5, .ptr id2828 0), (7, .bool x2900.2.2), (8, Sl.enc 9 AV.str x2930), (19, .bool (decide ((IntKind.wrap .i64 (wid2828_0 + 1) : Int) ≤ 4)))] [] rfl rfl ?_
    refine C_cond (decide ((IntKind.wrap .i64 (wid2828_0 + 1) : Int) ≤ 4)) rfl (fun hc2941 => ?_) (fun hc2941 => ?_)
    ·replace h2940 := ocond_t h2940 hc2941
     refine C_reg ?_
     refine oL (.int .i64 (IntKind.wrap .i64 (wid2828_0 + 1))) hb2935 ?_
     refine oP (.int .i64 (IntKind.wrap .i64 ((IntKind.wrap .i64 (wid2828_0 + 1)) - 1))) ?_
     refine oM (Sl.enc 9 AV.str x2930) ?_
     obtain ⟨x2945, hx2946, h2940⟩ := obind_some h2940
     refine oK [.ptr id2801 0, .int .i64 (IntKind.wrap .i64 ((IntKind.wrap .i64 (wid2828_0 + 1)) - 1)), Sl.enc 9 AV.str x2930] (w21_1 N (lo := lo) wid2801_0 wid2801_1 wid2801_2 wid2801_3 wid2801_4 (IntKind.wrap .i64 ((IntKind.wrap .i64 (wid2828_0 + 1)) - 1)) x2930 hb2932 ho2804.lo ho2804.cl (hf.kp hk2938) hx2946) ?_
     rintro _ H2942 _ ⟨rfl, hb2947, hk2943, rfl⟩
     have hb2948 := hb2947
     have hb2949 := hk2943.get _ _ (by simp only [List.mem_cons, List.not_mem_nil, or_false, not_or]; exact (fun e => hn2812 e.symm)) hb2933
     have hb2950 := hk2943.get _ _ (by simp only [List.mem_cons, List.not_mem_nil, or_false, not_or]; exact (fun e => hn2821 e.symm)) hb2934
     have hb2951 := hk2943.get _ _ (by simp only [List.mem_cons, List.not_mem_nil, or_false, not_or]; exact (fun e => hn2832 e.symm)) hb2935
     have hb2952 := hk2943.get _ _ (by simp only [List.mem_cons, List.not_mem_nil, or_false, not_or]; exact (fun e => hn2854 e.symm)) hb2936
     have hb2953 := hk2943.get _ _ (by simp only [List.mem_cons, List.not_mem_nil, or_false, not_or]; exact (fun e => hn2874 e.symm)) hb2937
     have hk2954 := hk2938.trans' hk2943 (by intro i hi; simp only [List.mem_cons, List.not_mem_nil, or_false] at hi; rcases hi with rfl <;> first | exact .inr ho2804.ge | skip)
     refine oA (.bool x2945.1) ?_
     refine O_nil ?_
     refine keep_to [(2, .ptr id2801 0), (3, .ptr id2808 0), (4, .ptr id2817 0), (5, .ptr id2828 0), (7, .bool x2900.2.2), (9, .bool x2945.1)] [] rfl rfl ?_
     obtain rfl := Option.some.inj h2940
     exact ⟨rfl, rfl, rfl, hk2954, hb2948, hb2949, hb2950, hb2951, hb2952, hb2953⟩
    ·replace h2940 := ocond_f h2940 hc2941
     refine C_reg ?_
     refine oM (Sl.enc 9 AV.str x2930) ?_
     obtain ⟨x2958, hx2959, h2940⟩ := obind_some h2940
     refine oK [.ptr id2801 0, Sl.enc 9 AV.str x2930] (w22_0 N (lo := lo) wid2801_0 wid2801_1 wid2801_2 wid2801_3 wid2801_4 x2930 hb2932 ho2804.lo ho2804.cl (hf.kp hk2938) hx2959) ?_
     rintro _ H2955 _ ⟨rfl, hb2960, hk2956, rfl⟩
     have hb2961 := hb2960
     have hb2962 := hk2956.get _ _ (by simp only [List.mem_cons, List.not_mem_nil, or_false, not_or]; exact (fun e => hn2812 e.symm)) hb2933
     have hb2963 := hk2956.get _ _ (by simp only [List.mem_cons, List.not_mem_nil, or_false, not_or]; exact (fun e => hn2821 e.symm)) hb2934
     have hb2964 := hk2956.get _ _ (by simp only [List.mem_cons, List.not_mem_nil, or_false, not_or]; exact (fun e => hn2832 e.symm)) hb2935
     have hb2965 := hk2956.get _ _ (by simp only [List.mem_cons, List.not_mem_nil, or_false, not_or]; exact (fun e => hn2854 e.symm)) hb2936
     have hb2966 := hk2956.get _ _ (by simp only [List.mem_cons, List.not_mem_nil, or_false, not_or]; exact (fun e => hn2874 e.symm)) hb2937
     have hk2967 := hk2938.trans' hk2956 (by intro i hi; simp only [List.mem_cons, List.not_mem_nil, or_false] at hi; rcases hi with rfl <;> first | exact .inr ho2804.ge | skip)
     refine oA (.bool x2958.1) ?_
     refine O_nil ?_
     refine keep_to [(2, .ptr id2801 0), (3, .ptr id2808 0), (4, .ptr id2817 0), (5, .ptr id2828 0), (7, .bool x2900.2.2), (9, .bool x2958.1)] [] rfl rfl ?_
     obtain rfl := Option.some.inj h2940
     exact ⟨rfl, rfl, rfl, hk2967, hb2961, hb2962, hb2963, hb2964, hb2965, hb2966⟩
   ·rintro _ H2968 _ _ ⟨rfl, rfl, rfl, hk2969, hb2970, hb2971, hb2972, hb2973, hb2974, hb2975⟩
    obtain ⟨v2976, h2977, h⟩ := obind_some h
    refine C_join [2, 3, 4, 5, 31] (fun env' H' sl' cl' => env' = [(2, .ptr id2801 0), (3, .ptr id2808 0), (4, .ptr id2817 0), (5, .ptr id2828 0), (31, .bool v2976)] ∧ sl' = [] ∧ clq v2939.2.2.2.2.2 id2801 4 cl = cl' ∧ Kp [] H H' ∧ H'[id2801]? = some (some ⟨25, [.int .i64 v2939.2.1, .int .i64 v2939.2.2.1, .int .i64 v2939.2.2.2.1, .int .i64 v2939.2.2.2.2.1, Sl.enc 38 T38.enc v2939.2.2.2.2.2]⟩) ∧ H'[id2808]? = some (some ⟨3, [.int .i64 0]⟩) ∧ H'[id2817]? = some (some ⟨26, [.int .i64 0]⟩) ∧ H'[id2828]? = some (some ⟨3, [.int .i64 (IntKind.wrap .i64 (wid2828_0 + 1))]⟩) ∧ H'[id2851]? = some (some ⟨9, [.str wid2851_0]⟩) ∧ H'[id2864]? = some (recA 1 0 0 y2867)) ?_ ?_
    ·refine C_reg ?_
     refine oM (.bool v2939.1) ?_
     refine oP (.bool (!v2939.1)) ?_
     rcases Bool.eq_false_or_eq_true (!v2939.1) with hg2978 | hg2978
     ·replace h2977 := ocond_t h2977 hg2978
      refine O_move (sl' := []) (.bool true) rfl (congrArg (fun b => some (AV.bool b)) hg2978) rfl rfl rfl ?_
      refine O_skip rfl rfl ?_
      refine O_skip rfl rfl ?_
      refine oP (.bool true) ?_
      refine O_nil ?_
      refine keep_to [(2, .ptr id2801 0), (3, .ptr id2808 0), (4, .ptr id2817 0), (5, .ptr id2828 0), (31, .bool true)] [] rfl rfl ?_
      obtain rfl := Option.some.inj h2977
      exact ⟨rfl, rfl, rfl, hk2969, hb2970, hb2971, hb2972, hb2973, hb2974, hb2975⟩
     ·replace h2977 := ocond_f h2977 hg2978
      refine O_move (sl' := []) (.bool false) rfl (congrArg (fun b => some (AV.bool b)) hg2978) rfl rfl rfl ?_
      refine oM (.bool x2900.2.2) ?_
      refine oP (.bool (!x2900.2.2)) ?_
      refine oP (.bool (!x2900.2.2)) ?_
      refine O_nil ?_
      refine keep_to [(2, .ptr id2801 0), (3, .ptr id2808 0), (4, .ptr id2817 0), (5, .ptr id2828 0), (31, .bool (!x2900.2.2))] [] rfl rfl ?_
      obtain rfl := Option.some.inj h2977
      exact ⟨rfl, rfl, rfl, hk2969, hb2970, hb2971, hb2972, hb2973, hb2974, hb2975⟩
    ·rintro _ H2979 _ _ ⟨rfl, rfl, rfl, hk2980, hb2981, hb2982, hb2983, hb2984, hb2985, hb2986⟩
     refine C_cond (v2976) rfl (fun hc2987 => ?_) (fun hc2987 => ?_)
     ·replace h := ocond_t h hc2987
      refine C_seq ?_
      refine C_draw0 (some [id2801, id2808, id2817]) (m := false) rfl rfl rfl fun b2988 hb2989 => ?_
      refine oP (.agg [.int .i64 0, .int .i64 0, .int .i64 0, .int .i64 0, Sl.enc 38 T38.enc none]) ?_
      refine O_load (cl' := clq v2939.2.2.2.2.2 id2801 4 cl) (sl' := []) (.int .i64 (IntKind.wrap .i64 (wid2828_0 + 1))) rfl rfl hb2984 rfl (lateL_of (lt_base hb2984 hb2989) ⟨(fun e => hn2832 e.symm), (fun e => hn2833 e.symm), (fun e => hn2834 e.symm), trivial⟩) rfl rfl (fun p h => ⟨h, fun e => by cases e⟩) ?_
      refine O_store (sl' := []) (cl' := clq (none : Sl T38) id2801 4 cl) (.agg [.int .i64 0, .int .i64 0, .int .i64 0, .int .i64 0, Sl.enc 38 T38.enc none]) rfl rfl rfl ho2804.lo hb2981 rfl (lateS_of (by simp)) (fun q h => by cases h) (by intro i o h; exact .inr ⟨clq_sub (s := v2939.2.2.2.2.2) (id := id2801) (o := 4) h, fun e => ho2804.cl i o h e.1⟩) fun H2990 hH2991 => ?_
      have hb2992 : H2990[id2801]? = some (some ⟨25, [.int .i64 0, .int .i64 0, .int .i64 0, .int .i64 0, Sl.enc 38 T38.enc none]⟩) := getW hH2991 hb2981
      have hb2993 := getS hH2991 (fun e => hn2812 e.symm) hb2982
      have hb2994 := getS hH2991 (fun e => hn2821 e.symm) hb2983
      have hb2995 := getS hH2991 (fun e => hn2832 e.symm) hb2984
      have hb2996 := getS hH2991 (fun e => hn2854 e.symm) hb2985
      have hb2997 := getS hH2991 (fun e => hn2874 e.symm) hb2986
      have hk2998 := kpS hH2991 ho2804.ge hk2980
      refine O_store (sl' := []) (cl' := clq (none : Sl T38) id2801 4 cl) (.int .i64 (IntKind.wrap .i64 (wid2828_0 + 1))) rfl rfl rfl ho2811.lo hb2993 rfl (lateS_of (by simp)) (fun q h => by cases h) (by intro i o h0; refine .inr ⟨h0, fun e => ?_⟩; rcases mem_clq (s := (none : Sl T38)) (id := id2801) (o := 4) (cl := cl) h0 with ⟨e1, e2⟩ | h1; exact hn2812 (e1.symm.trans e.1); exact ho2811.cl i o h1 e.1) fun H2999 hH3000 => ?_
      have hb3001 : H2999[id2808]? = some (some ⟨3, [.int .i64 (IntKind.wrap .i64 (wid2828_0 + 1))]⟩) := getW hH3000 hb2993
      have hb3002 := getS hH3000 hn2812 hb2992
      have hb3003 := getS hH3000 (fun e => hn2822 e.symm) hb2994
      have hb3004 := getS hH3000 (fun e => hn2833 e.symm) hb2995
      have hb3005 := getS hH3000 (fun e => hn2855 e.symm) hb2996
      have hb3006 := getS hH3000 (fun e => hn2875 e.symm) hb2997
      have hk3007 := kpS hH3000 ho2811.ge hk2998
      refine O_store (sl' := []) (cl' := clq (none : Sl T38) id2801 4 cl) (.int .i64 7) rfl rfl rfl ho2820.lo hb3003 rfl (lateS_of (by simp)) (fun q h => by cases h) (by intro i o h0; refine .inr ⟨h0, fun e => ?_⟩; rcases mem_clq (s := (none : Sl T38)) (id := id2801) (o := 4) (cl := cl) h0 with ⟨e1, e2⟩ | h1; exact hn2821 (e1.symm.trans e.1); exact ho2820.cl i o h1 e.1) fun H3008 hH3009 => ?_
      have hb3010 : H3008[id2817]? = some (some ⟨26, [.int .i64 7]⟩) := getW hH3009 hb3003
      have hb3011 := getS hH3009 hn2821 hb3002
      have hb3012 := getS hH3009 hn2822 hb3001
      have hb3013 := getS hH3009 (fun e => hn2834 e.symm) hb3004
      have hb3014 := getS hH3009 (fun e => hn2856 e.symm) hb3005
      have hb3015 := getS hH3009 (fun e => hn2876 e.symm) hb3006
      have hk3016 := kpS hH3009 ho2820.ge hk3007
      refine O_nil ?_
      refine keep_to [] [] rfl rfl ?_
      refine C_ret ?_
      refine ⟨_, _, _, _, hb3015, fun H3017 hH3018 => ?_⟩
      have hb3019 : H3017[id2864]? = some (recA 2 1 0 y2867) := by subst hH3018; exact get_set_same hb3015 _
      have hb3020 := getS hH3018 hn2874 hb3011
      have hb3021 := getS hH3018 hn2875 hb3012
      have hb3022 := getS hH3018 hn2876 hb3010
      have hb3023 := getS hH3018 hn2877 hb3013
      have hb3024 := getS hH3018 hn2878 hb3014
      have hk3025 := kpS hH3018 ho2873.ge hk3016
      refine oP (.bool true) ?_
      refine O_nil ?_
      refine keep_to [(0, .yld id2864), (1, .ptr id2851 0), (4, .str x2900.2.1), (18, .bool true)] [] rfl rfl ?_
      refine C_true rfl ?_
      refine C_cl (cl1 := cl) (fun p h => clq_sub (s := (none : Sl T38)) (id := id2801) (o := 4) h) ?_
      refine C_ret ?_
      refine ⟨_, rfl, _, _, _, _, hb3019, rfl, fun H3026 hH3027 => ?_⟩
      have hb3028 := getS hH3027 hn2874 hb3020
      have hb3029 := getS hH3027 hn2875 hb3021
      have hb3030 := getS hH3027 hn2876 hb3022
      have hb3031 := getS hH3027 hn2877 hb3023
      have hb3032 := getS hH3027 hn2878 hb3024
      have hk3033 := kpS hH3027 ho2873.ge hk3025
      obtain rfl := Option.some.inj h
      exact ⟨_, (ress_two (resM_cons (resE_cell rfl hb3028 rfl) (resM_cons (resE_cell rfl hb3029 rfl) (resM_cons (resE_cell rfl hb3030 rfl) resM_nil)))), rfl, hk3033, rfl⟩
     ·replace h := ocond_f h hc2987
      refine C_skip ?_
      refine ⟨_, _, _, _, hb2986, fun H3034 hH3035 => ?_⟩
      have hb3036 : H3034[id2864]? = some (recA 0 0 0 y2867) := by subst hH3035; exact get_set_same hb2986 _
      have hb3037 := getS hH3035 hn2874 hb2981
      have hb3038 := getS hH3035 hn2875 hb2982
      have hb3039 := getS hH3035 hn2876 hb2983
      have hb3040 := getS hH3035 hn2877 hb2984
      have hb3041 := getS hH3035 hn2878 hb2985
      have hk3042 := kpS hH3035 ho2873.ge hk2980
      refine oP (.bool false) ?_
      refine O_nil ?_
      refine keep_to [(0, .yld id2864), (1, .ptr id2851 0), (4, .str x2900.2.1), (18, .bool false)] [] rfl rfl ?_
      refine C_false rfl ?_
      refine C_skip ?_
      refine C_reg ?_
      refine oM (.str x2900.2.1) ?_
      refine O_store (sl' := []) (cl' := clq v2939.2.2.2.2.2 id2801 4 cl) (.str x2900.2.1) rfl rfl rfl ho2863.lo hb3041 rfl rfl (fun q h => by cases h) (by intro i o h0; refine .inr ⟨h0, fun e => ?_⟩; rcases mem_clq (s := v2939.2.2.2.2.2) (id := id2801) (o := 4) (cl := cl) h0 with ⟨e1, e2⟩ | h1; exact hn2854 (e1.symm.trans e.1); exact ho2863.cl i o h1 e.1) fun H3043 hH3044 => ?_
      have hb3045 : H3043[id2851]? = some (some ⟨9, [.str x2900.2.1]⟩) := getW hH3044 hb3041
      have hb3046 := getS hH3044 hn2854 hb3037
      have hb3047 := getS hH3044 hn2855 hb3038
      have hb3048 := getS hH3044 hn2856 hb3039
      have hb3049 := getS hH3044 hn2857 hb3040
      have hb3050 := getS hH3044 (fun e => hn2878 e.symm) hb3036
      have hk3051 := kpS hH3044 ho2863.ge hk3042
      refine O_nil ?_
      refine keep_to [(0, .yld id2864), (1, .ptr id2851 0)] [] rfl rfl ?_
      exact ⟨n, Nat.lt_succ_self n, v2939.2.1, v2939.2.2.1, v2939.2.2.2.1, v2939.2.2.2.2.1, v2939.2.2.2.2.2, (IntKind.wrap .i64 (wid2828_0 + 1)), x2900.2.1, rfl, rfl, rfl, hk3051, hb3046, hb3047, hb3048, hb3049, hb3045, hb3050, h⟩
  ·replace h := ocond_f h hc2896
   refine C_exit ?_
   exact ⟨_, rfl, rfl, rfl, hk2889, hb2890, hb2891, hb2892, hb2893, hb2894, hb2895, h⟩
 ·rintro _ H3052 _ _ ⟨e2885, rfl, rfl, rfl, hk3053, hb3054, hb3055, hb3056, hb3057, hb3058, hb3059, h⟩
  subst hk2887
  refine ⟨_, rfl, _, _, _, _, hb3059, rfl, fun H3060 hH3061 => ?_⟩
  have hb3062 := getS hH3061 hn2874 hb3054
  have hb3063 := getS hH3061 hn2875 hb3055
  have hb3064 := getS hH3061 hn2876 hb3056
  have hb3065 := getS hH3061 hn2877 hb3057
  have hb3066 := getS hH3061 hn2878 hb3058
  have hk3067 := kpS hH3061 ho2873.ge hk3053
  refine C_seq ?_
  refine C_seq ?_
  refine C_reg ?_
  refine oL (.int .i64 e2885.2.2.2.2.2.1) hb3065 ?_
  refine oP (.bool (decide ((e2885.2.2.2.2.2.1 : Int) < 4))) ?_
  refine O_nil ?_
  refine keep_to [(2, .ptr id2801 0), (3, .ptr id2808 0), (4, .ptr id2817 0), (5, .ptr id2828 0), (35, .bool (decide ((e2885.2.2.2.2.2.1 : Int) < 4)))] [] rfl rfl ?_
  refine C_cond (decide ((e2885.2.2.2.2.2.1 : Int) < 4)) rfl (fun hc3068 => ?_) (fun hc3068 => ?_)
  ·replace h := ocond_t h hc3068
   refine C_seq ?_
   refine C_draw0 (some [id2801, id2808, id2817]) (m := false) rfl rfl rfl fun b3069 hb3070 => ?_
   refine oP (.agg [.int .i64 0, .int .i64 0, .int .i64 0, .int .i64 0, Sl.enc 38 T38.enc none]) ?_
   refine O_load (cl' := clq e2885.2.2.2.2.1 id2801 4 cl) (sl' := []) (.int .i64 e2885.2.2.2.2.2.1) rfl rfl hb3065 rfl (lateL_of (lt_base hb3065 hb3070) ⟨(fun e => hn2832 e.symm), (fun e => hn2833 e.symm), (fun e => hn2834 e.symm), trivial⟩) rfl rfl (fun p h => ⟨h, fun e => by cases e⟩) ?_
   refine oP (.int .i64 (IntKind.wrap .i64 (e2885.2.2.2.2.2.1 + 1))) ?_
   refine O_store (sl' := []) (cl' := clq (none : Sl T38) id2801 4 cl) (.agg [.int .i64 0, .int .i64 0, .int .i64 0, .int .i64 0, Sl.enc 38 T38.enc none]) rfl rfl rfl ho2804.lo hb3062 rfl (lateS_of (by simp)) (fun q h => by cases h) (by intro i o h; exact .inr ⟨clq_sub (s := e2885.2.2.2.2.1) (id := id2801) (o := 4) h, fun e => ho2804.cl i o h e.1⟩) fun H3071 hH3072 => ?_
   have hb3073 : H3071[id2801]? = some (some ⟨25, [.int .i64 0, .int .i64 0, .int .i64 0, .int .i64 0, Sl.enc 38 T38.enc none]⟩) := getW hH3072 hb3062
   have hb3074 := getS hH3072 (fun e => hn2812 e.symm) hb3063
   have hb3075 := getS hH3072 (fun e => hn2821 e.symm) hb3064
   have hb3076 := getS hH3072 (fun e => hn2832 e.symm) hb3065
   have hk3077 := kpS hH3072 ho2804.ge hk3067
   refine O_store (sl' := []) (cl' := clq (none : Sl T38) id2801 4 cl) (.int .i64 (IntKind.wrap .i64 (e2885.2.2.2.2.2.1 + 1))) rfl rfl rfl ho2811.lo hb3074 rfl (lateS_of (by simp)) (fun q h => by cases h) (by intro i o h0; refine .inr ⟨h0, fun e => ?_⟩; rcases mem_clq (s := (none : Sl T38)) (id := id2801) (o := 4) (cl := cl) h0 with ⟨e1, e2⟩ | h1; exact hn2812 (e1.symm.trans e.1); exact ho2811.cl i o h1 e.1) fun H3078 hH3079 => ?_
   have hb3080 : H3078[id2808]? = some (some ⟨3, [.int .i64 (IntKind.wrap .i64 (e2885.2.2.2.2.2.1 + 1))]⟩) := getW hH3079 hb3074
   have hb3081 := getS hH3079 hn2812 hb3073
   have hb3082 := getS hH3079 (fun e => hn2822 e.symm) hb3075
   have hb3083 := getS hH3079 (fun e => hn2833 e.symm) hb3076
   have hk3084 := kpS hH3079 ho2811.ge hk3077
   refine O_store (sl' := []) (cl' := clq (none : Sl T38) id2801 4 cl) (.int .i64 7) rfl rfl rfl ho2820.lo hb3082 rfl (lateS_of (by simp)) (fun q h => by cases h) (by intro i o h0; refine .inr ⟨h0, fun e => ?_⟩; rcases mem_clq (s := (none : Sl T38)) (id := id2801) (o := 4) (cl := cl) h0 with ⟨e1, e2⟩ | h1; exact hn2821 (e1.symm.trans e.1); exact ho2820.cl i o h1 e.1) fun H3085 hH3086 => ?_
   have hb3087 : H3085[id2817]? = some (some ⟨26, [.int .i64 7]⟩) := getW hH3086 hb3082
   have hb3088 := getS hH3086 hn2821 hb3081
   have hb3089 := getS hH3086 hn2822 hb3080
   have hb3090 := getS hH3086 (fun e => hn2834 e.symm) hb3083
   have hk3091 := kpS hH3086 ho2820.ge hk3084
   refine O_nil ?_
   refine keep_to [(2, .ptr id2801 0), (3, .ptr id2808 0), (4, .ptr id2817 0)] [] rfl rfl ?_
   refine C_cl (cl1 := cl) (fun p h => clq_sub (s := (none : Sl T38)) (id := id2801) (o := 4) h) ?_
   refine C_ret ?_
   obtain rfl := Option.some.inj h
   exact ⟨_, (ress_two (resM_cons (resE_cell rfl hb3088 rfl) (resM_cons (resE_cell rfl hb3089 rfl) (resM_cons (resE_cell rfl hb3087 rfl) resM_nil)))), rfl, hk3091, rfl⟩
  ·replace h := ocond_f h hc3068
   refine C_skip ?_
   refine C_seq ?_
   refine C_reg ?_
   refine oL (.agg [.int .i64 e2885.1, .int .i64 e2885.2.1, .int .i64 e2885.2.2.1, .int .i64 e2885.2.2.2.1, Sl.enc 38 T38.enc e2885.2.2.2.2.1]) hb3062 ?_
   refine O_store (sl' := []) (cl' := cl) (.agg [.int .i64 e2885.1, .int .i64 e2885.2.1, .int .i64 e2885.2.2.1, .int .i64 e2885.2.2.2.1, Sl.enc 38 T38.enc e2885.2.2.2.2.1]) rfl rfl rfl ho2804.lo hb3062 rfl rfl (fun q h => by cases h) (by intro i o h; exact .inr ⟨clq_sub (s := e2885.2.2.2.2.1) (id := id2801) (o := 4) h, fun e => ho2804.cl i o h e.1⟩) fun H3092 hH3093 => ?_
   have hb3094 : H3092[id2801]? = some (some ⟨25, [.int .i64 e2885.1, .int .i64 e2885.2.1, .int .i64 e2885.2.2.1, .int .i64 e2885.2.2.2.1, Sl.enc 38 T38.enc e2885.2.2.2.2.1]⟩) := getW hH3093 hb3062
   have hb3095 := getS hH3093 (fun e => hn2812 e.symm) hb3063
   have hb3096 := getS hH3093 (fun e => hn2821 e.symm) hb3064
   have hb3097 := getS hH3093 (fun e => hn2832 e.symm) hb3065
   have hk3098 := kpS hH3093 ho2804.ge hk3067
   refine O_store (sl' := []) (cl' := cl) (.int .i64 0) rfl rfl rfl ho2811.lo hb3095 rfl rfl (fun q h => by cases h) (fun i o h => .inr ⟨h, fun e => ho2811.cl i o h e.1⟩) fun H3099 hH3100 => ?_
   have hb3101 : H3099[id2808]? = some (some ⟨3, [.int .i64 0]⟩) := getW hH3100 hb3095
   have hb3102 := getS hH3100 hn2812 hb3094
   have hb3103 := getS hH3100 (fun e => hn2822 e.symm) hb3096
   have hb3104 := getS hH3100 (fun e => hn2833 e.symm) hb3097
   have hk3105 := kpS hH3100 ho2811.ge hk3098
   refine O_store (sl' := []) (cl' := cl) (.int .i64 0) rfl rfl rfl ho2820.lo hb3103 rfl rfl (fun q h => by cases h) (fun i o h => .inr ⟨h, fun e => ho2820.cl i o h e.1⟩) fun H3106 hH3107 => ?_
   have hb3108 : H3106[id2817]? = some (some ⟨26, [.int .i64 0]⟩) := getW hH3107 hb3103
   have hb3109 := getS hH3107 hn2821 hb3102
   have hb3110 := getS hH3107 hn2822 hb3101
   have hb3111 := getS hH3107 (fun e => hn2834 e.symm) hb3104
   have hk3112 := kpS hH3107 ho2820.ge hk3105
   refine O_nil ?_
   refine keep_to [(2, .ptr id2801 0), (3, .ptr id2808 0), (4, .ptr id2817 0)] [] rfl rfl ?_
   refine C_ret ?_
   obtain rfl := Option.some.inj h
   exact ⟨_, (ress_two (resM_cons (resE_cell rfl hb3109 rfl) (resM_cons (resE_cell rfl hb3110 rfl) (resM_cons (resE_cell rfl hb3108 rfl) resM_nil)))), rfl, hk3112, rfl⟩
end Go.Proofs.YtecdcnacjlcjoaaDoor.Job

/- Job: walks (GL3). Printed by a small program. -/
namespace Go.Proofs.YtecdcnacjlcjoaaDoor.Job
open Am
set_option linter.unusedVariables false
set_option linter.unusedSimpArgs false
/- freshet/freshetlaw24.JobParse -/
def s3 (N : Nat) (p0 : Bs) : Option Bool :=
cond (decide ((((List.length p0 : Nat) : Int) : Int) > 4096))
 (some true)
 (Option.bind (s10 N p0) fun x3181 =>
Option.bind (s11 N p0) fun x3198 =>
Option.bind (s12 N x3181.1 x3198.1) fun x3219 =>
cond (x3219)
 (cond ((x3181.2.1 : Int) == x3198.2.1)
 (cond ((x3181.2.2 : Int) == x3198.2.2)
 (some true)
 (some false))
 (some false))
 (some false))
set_option maxRecDepth 8000 in
set_option maxHeartbeats 4000000 in
theorem w3 (N : Nat) {lo : Nat} {cl : Cl} {H : Hp} (p0 : Bs) (hf : Fit lo cl H) {r : Bool} (h : s3 N p0 = some r) : CallsR Tryd.prog (Kj lo) 3 [.str p0] H (cl) fun x H' cl' => x = .bool r ∧ Kp [] H H' ∧ cl = cl' := by
 refine calls_by Tryd.func3 rfl rfl rfl ?_
 unfold s3 at h
 have hk0 : Kp [] H H := Kp.refl H
 refine C_seq ?_
 refine C_reg ?_
 refine oB (.bool false) ?_
 refine O_nil ?_
 refine keep_to [(0, .str p0)] [] rfl rfl ?_
 refine C_seq ?_
 refine C_seq ?_
 refine C_reg ?_
 refine oM (.str p0) ?_
 refine oP (.int .i64 ((List.length p0 : Nat) : Int)) ?_
 refine oP (.bool (decide ((((List.length p0 : Nat) : Int) : Int) > 4096))) ?_
 refine O_nil ?_
 refine keep_to [(0, .str p0), (11, .bool (decide ((((List.length p0 : Nat) : Int) : Int) > 4096)))] [] rfl rfl ?_
 refine C_cond (decide ((((List.length p0 : Nat) : Int) : Int) > 4096)) rfl (fun hc3173 => ?_) (fun hc3173 => ?_)
 ·replace h := ocond_t h hc3173
  refine C_seq ?_
  refine C_reg ?_
  refine oK [] (wAwake (lo := lo)) ?_
  rintro _ H3174 _ ⟨rfl, hk3175, rfl⟩
  have hk3177 := hk0.trans hk3175
  refine oA (.bool true) ?_
  refine O_nil ?_
  refine keep_to [(2, .bool true)] [] rfl rfl ?_
  refine C_ret ?_
  obtain rfl := Option.some.inj h
  exact ⟨_, rfl, rfl, hk3177, rfl⟩
 ·replace h := ocond_f h hc3173
  refine C_skip ?_
  refine C_seq ?_
  refine C_reg ?_
  refine oM (.str p0) ?_
  obtain ⟨x3181, hx3182, h⟩ := obind_some h
  refine oK [.str p0] (w10 N (lo := lo) p0 (hf.kp hk0) hx3182) ?_
  rintro _ H3178 _ ⟨rfl, hk3179, rfl⟩
  have hk3183 := hk0.trans hk3179
  refine oM (.tup [.agg [.int .i64 x3181.1.Groups, .int .i64 x3181.1.Sources, .int .i64 x3181.1.Bound, .int .i64 x3181.1.Late, Sl.enc 38 T38.enc x3181.1.Ops], .int .i64 x3181.2.1, .int .i64 x3181.2.2]) ?_
  refine oP (.agg [.int .i64 x3181.1.Groups, .int .i64 x3181.1.Sources, .int .i64 x3181.1.Bound, .int .i64 x3181.1.Late, Sl.enc 38 T38.enc x3181.1.Ops]) ?_
  refine oP (.int .i64 x3181.2.1) ?_
  refine oP (.int .i64 x3181.2.2) ?_
  refine oZ [.int .i64 0, .int .i64 0, .int .i64 0, .int .i64 0, Sl.enc 38 T38.enc none] fun id3186 H3184 hi3187 hH3188 => ?_
  have hb3185 : H3184[id3186]? = some (some ⟨25, [.int .i64 0, .int .i64 0, .int .i64 0, .int .i64 0, Sl.enc 38 T38.enc none]⟩) := getL hi3187 hH3188
  have ho3189 := Own.mk2 hf hk3183 (Nat.le_of_eq hi3187)
  have hk3190 := kpA hH3188 hk3183
  refine O_store (sl' := []) (cl' := cl) (.agg [.int .i64 x3181.1.Groups, .int .i64 x3181.1.Sources, .int .i64 x3181.1.Bound, .int .i64 x3181.1.Late, Sl.enc 38 T38.enc x3181.1.Ops]) rfl rfl rfl ho3189.lo hb3185 rfl rfl (fun q h => by cases h) (fun i o h => .inr ⟨h, fun e => ho3189.cl i o h e.1⟩) fun H3191 hH3192 => ?_
  have hb3193 : H3191[id3186]? = some (some ⟨25, [.int .i64 x3181.1.Groups, .int .i64 x3181.1.Sources, .int .i64 x3181.1.Bound, .int .i64 x3181.1.Late, Sl.enc 38 T38.enc x3181.1.Ops]⟩) := getW hH3192 hb3185
  have hk3194 := kpS hH3192 ho3189.ge hk3190
  refine oA (.int .i64 x3181.2.1) ?_
  refine oA (.int .i64 x3181.2.2) ?_
  refine O_nil ?_
  refine keep_to [(0, .str p0), (3, .ptr id3186 0), (4, .int .i64 x3181.2.1), (5, .int .i64 x3181.2.2)] [] rfl rfl ?_
  refine C_seq ?_
  refine C_reg ?_
  refine oM (.str p0) ?_
  obtain ⟨x3198, hx3199, h⟩ := obind_some h
  refine oK [.str p0] (w11 N (lo := lo) p0 (hf.kp hk3194) hx3199) ?_
  rintro _ H3195 _ ⟨rfl, hk3196, rfl⟩
  have hb3200 := hk3196.get0 hb3193
  have hk3201 := hk3194.trans hk3196
  refine oM (.tup [.agg [.int .i64 x3198.1.Groups, .int .i64 x3198.1.Sources, .int .i64 x3198.1.Bound, .int .i64 x3198.1.Late, Sl.enc 38 T38.enc x3198.1.Ops], .int .i64 x3198.2.1, .int .i64 x3198.2.2]) ?_
  refine oP (.agg [.int .i64 x3198.1.Groups, .int .i64 x3198.1.Sources, .int .i64 x3198.1.Bound, .int .i64 x3198.1.Late, Sl.enc 38 T38.enc x3198.1.Ops]) ?_
  refine oP (.int .i64 x3198.2.1) ?_
  refine oP (.int .i64 x3198.2.2) ?_
  refine oZ [.int .i64 0, .int .i64 0, .int .i64 0, .int .i64 0, Sl.enc 38 T38.enc none] fun id3204 H3202 hi3205 hH3206 => ?_
  have hb3203 : H3202[id3204]? = some (some ⟨25, [.int .i64 0, .int .i64 0, .int .i64 0, .int .i64 0, Sl.enc 38 T38.enc none]⟩) := getL hi3205 hH3206
  have ho3207 := Own.mk2 hf hk3201 (Nat.le_of_eq hi3205)
  have hn3208 := ne_of_lt hb3200 (Nat.le_of_eq hi3205)
  have hb3209 := getA hH3206 hb3200
  have hk3210 := kpA hH3206 hk3201
  refine O_store (sl' := []) (cl' := cl) (.agg [.int .i64 x3198.1.Groups, .int .i64 x3198.1.Sources, .int .i64 x3198.1.Bound, .int .i64 x3198.1.Late, Sl.enc 38 T38.enc x3198.1.Ops]) rfl rfl rfl ho3207.lo hb3203 rfl rfl (fun q h => by cases h) (fun i o h => .inr ⟨h, fun e => ho3207.cl i o h e.1⟩) fun H3211 hH3212 => ?_
  have hb3213 : H3211[id3204]? = some (some ⟨25, [.int .i64 x3198.1.Groups, .int .i64 x3198.1.Sources, .int .i64 x3198.1.Bound, .int .i64 x3198.1.Late, Sl.enc 38 T38.enc x3198.1.Ops]⟩) := getW hH3212 hb3203
  have hb3214 := getS hH3212 hn3208 hb3209
  have hk3215 := kpS hH3212 ho3207.ge hk3210
  refine oA (.int .i64 x3198.2.1) ?_
  refine oA (.int .i64 x3198.2.2) ?_
  refine O_nil ?_
  refine keep_to [(3, .ptr id3186 0), (4, .int .i64 x3181.2.1), (5, .int .i64 x3181.2.2), (6, .ptr id3204 0), (7, .int .i64 x3198.2.1), (8, .int .i64 x3198.2.2)] [] rfl rfl ?_
  refine C_seq ?_
  refine C_reg ?_
  refine oL (.agg [.int .i64 x3181.1.Groups, .int .i64 x3181.1.Sources, .int .i64 x3181.1.Bound, .int .i64 x3181.1.Late, Sl.enc 38 T38.enc x3181.1.Ops]) hb3214 ?_
  refine oL (.agg [.int .i64 x3198.1.Groups, .int .i64 x3198.1.Sources, .int .i64 x3198.1.Bound, .int .i64 x3198.1.Late, Sl.enc 38 T38.enc x3198.1.Ops]) hb3213 ?_
  obtain ⟨x3219, hx3220, h⟩ := obind_some h
  refine oK [.agg [.int .i64 x3181.1.Groups, .int .i64 x3181.1.Sources, .int .i64 x3181.1.Bound, .int .i64 x3181.1.Late, Sl.enc 38 T38.enc x3181.1.Ops], .agg [.int .i64 x3198.1.Groups, .int .i64 x3198.1.Sources, .int .i64 x3198.1.Bound, .int .i64 x3198.1.Late, Sl.enc 38 T38.enc x3198.1.Ops]] (w12 N (lo := lo) x3181.1 x3198.1 (hf.kp hk3215) hx3220) ?_
  rintro _ H3216 _ ⟨rfl, hk3217, rfl⟩
  have hb3221 := hk3217.get0 hb3214
  have hb3222 := hk3217.get0 hb3213
  have hk3223 := hk3215.trans hk3217
  rcases Bool.eq_false_or_eq_true (x3219) with hg3224 | hg3224
  ·replace h := ocond_t h hg3224
   refine O_move (sl' := []) (.bool true) rfl (congrArg (fun b => some (AV.bool b)) hg3224) rfl rfl rfl ?_
   refine oM (.int .i64 x3181.2.1) ?_
   refine oM (.int .i64 x3198.2.1) ?_
   refine oP (.bool ((x3181.2.1 : Int) == x3198.2.1)) ?_
   refine oP (.bool ((x3181.2.1 : Int) == x3198.2.1)) ?_
   rcases Bool.eq_false_or_eq_true ((x3181.2.1 : Int) == x3198.2.1) with hg3225 | hg3225
   ·replace h := ocond_t h hg3225
    refine O_move (sl' := []) (.bool true) rfl (congrArg (fun b => some (AV.bool b)) hg3225) rfl rfl rfl ?_
    refine oM (.int .i64 x3181.2.2) ?_
    refine oM (.int .i64 x3198.2.2) ?_
    refine oP (.bool ((x3181.2.2 : Int) == x3198.2.2)) ?_
    refine oP (.bool ((x3181.2.2 : Int) == x3198.2.2)) ?_
    rcases Bool.eq_false_or_eq_true ((x3181.2.2 : Int) == x3198.2.2) with hg3226 | hg3226
    ·replace h := ocond_t h hg3226
     refine O_move (sl' := []) (.bool true) rfl (congrArg (fun b => some (AV.bool b)) hg3226) rfl rfl rfl ?_
     refine oK [] (wAwake (lo := lo)) ?_
     rintro _ H3227 _ ⟨rfl, hk3228, rfl⟩
     have hb3230 := hk3228.get0 hb3221
     have hb3231 := hk3228.get0 hb3222
     have hk3232 := hk3223.trans hk3228
     refine oP (.bool true) ?_
     refine oA (.bool true) ?_
     refine O_nil ?_
     refine keep_to [(2, .bool true)] [] rfl rfl ?_
     refine C_ret ?_
     obtain rfl := Option.some.inj h
     exact ⟨_, rfl, rfl, hk3232, rfl⟩
    ·replace h := ocond_f h hg3226
     refine O_move (sl' := []) (.bool false) rfl (congrArg (fun b => some (AV.bool b)) hg3226) rfl rfl rfl ?_
     refine O_skip rfl rfl ?_
     refine oP (.bool false) ?_
     refine oA (.bool false) ?_
     refine O_nil ?_
     refine keep_to [(2, .bool false)] [] rfl rfl ?_
     refine C_ret ?_
     obtain rfl := Option.some.inj h
     exact ⟨_, rfl, rfl, hk3223, rfl⟩
   ·replace h := ocond_f h hg3225
    refine O_move (sl' := []) (.bool false) rfl (congrArg (fun b => some (AV.bool b)) hg3225) rfl rfl rfl ?_
    refine O_skip rfl rfl ?_
    refine O_skip rfl rfl ?_
    refine O_skip rfl rfl ?_
    refine oP (.bool false) ?_
    refine oM (.bool false) ?_
    refine O_skip rfl rfl ?_
    refine oP (.bool false) ?_
    refine oA (.bool false) ?_
    refine O_nil ?_
    refine keep_to [(2, .bool false)] [] rfl rfl ?_
    refine C_ret ?_
    obtain rfl := Option.some.inj h
    exact ⟨_, rfl, rfl, hk3223, rfl⟩
  ·replace h := ocond_f h hg3224
   refine O_move (sl' := []) (.bool false) rfl (congrArg (fun b => some (AV.bool b)) hg3224) rfl rfl rfl ?_
   refine O_skip rfl rfl ?_
   refine O_skip rfl rfl ?_
   refine O_skip rfl rfl ?_
   refine oP (.bool false) ?_
   refine oM (.bool false) ?_
   refine O_skip rfl rfl ?_
   refine O_skip rfl rfl ?_
   refine O_skip rfl rfl ?_
   refine oP (.bool false) ?_
   refine oM (.bool false) ?_
   refine O_skip rfl rfl ?_
   refine oP (.bool false) ?_
   refine oA (.bool false) ?_
   refine O_nil ?_
   refine keep_to [(2, .bool false)] [] rfl rfl ?_
   refine C_ret ?_
   obtain rfl := Option.some.inj h
   exact ⟨_, rfl, rfl, hk3223, rfl⟩
end Go.Proofs.YtecdcnacjlcjoaaDoor.Job

/- Job: walks (GL5). Printed by a small program. -/
namespace Go.Proofs.YtecdcnacjlcjoaaDoor.Job
open Am
set_option linter.unusedVariables false
set_option linter.unusedSimpArgs false
end Go.Proofs.YtecdcnacjlcjoaaDoor.Job

/- Job: walks (GL6). Printed by a small program. -/
namespace Go.Proofs.YtecdcnacjlcjoaaDoor.Job
open Am
set_option linter.unusedVariables false
set_option linter.unusedSimpArgs false
/- freshet/freshetlaw24.JobNames -/
def s6 (N : Nat) (p0 : T25) (p1 : Int) (p2 : T38) : Option Bool :=
cond (decide ((Sl.len p0.Ops : Int) < 1))
 (some true)
 (cond (decide ((Sl.len p0.Ops : Int) > 7))
 (some true)
 (Option.bind (s13 N p0) fun x3764 =>
Option.bind (Option.bind (cond (decide ((p1 : Int) < 0))
 (some true)
 (some (decide ((p1 : Int) ≥ Sl.len p0.Ops)))) fun (v3771 : Bool) =>
cond (v3771)
 (some (IntKind.wrap .i64 ((Sl.len p0.Ops) - 1)))
 (some p1)) fun (v3769 : Int) =>
Option.bind (s13 N (T25.mk 1 1 0 0 (some ([(T38.mk [113] p2.Agg p2.Windows_Kind p2.Windows_Size p2.Windows_Slide)], [])))) fun x3803 =>
Option.bind (s13 N (T25.mk 1 1 0 0 none)) fun x3811 =>
cond ((x3764.2 : Int) != 0)
 (some true)
 (cond ((x3803.2 : Int) != 0)
 (some true)
 (cond ((x3811.2 : Int) != 0)
 (some true)
 (cond (decide ((((List.length x3803.1 : Nat) : Int) : Int) < IntKind.wrap .i64 (((List.length x3811.1 : Nat) : Int) + 4)))
 (some false)
 (Option.bind (scut x3803.1 (some ((List.length x3811.1 : Nat) : Int)) none) fun s3834 =>
Option.bind (sadd x3764.1 [111, 112, 32]) fun s3843 =>
Option.bind (Sl.get p0.Ops v3769) fun o3845 =>
Option.bind (sadd s3843 o3845.Name) fun s3847 =>
Option.bind (scut s3834 (some 4) none) fun s3849 =>
Option.bind (sadd s3847 s3849) fun s3851 =>
Option.bind (s10 N s3851) fun x3856 =>
cond ((x3856.2.1 : Int) == IntKind.wrap .i64 (5 + (Sl.len p0.Ops)))
 (cond ((x3856.2.2 : Int) == 7)
 (some true)
 (some false))
 (some false)))))))
set_option maxRecDepth 8000 in
set_option maxHeartbeats 4000000 in
theorem w6 (N : Nat) {lo : Nat} {cl : Cl} {H : Hp} (p0 : T25) (p1 : Int) (p2 : T38) (hf : Fit lo cl H) {r : Bool} (h : s6 N p0 p1 p2 = some r) : CallsR Tryd.prog (Kj lo) 6 [.agg [.int .i64 p0.Groups, .int .i64 p0.Sources, .int .i64 p0.Bound, .int .i64 p0.Late, Sl.enc 38 T38.enc p0.Ops], .int .i64 p1, .agg [.str p2.Name, .int .i64 p2.Agg, .int .i64 p2.Windows_Kind, .int .i64 p2.Windows_Size, .int .i64 p2.Windows_Slide]] H (cl) fun x H' cl' => x = .bool r ∧ Kp [] H H' ∧ cl = cl' := by
 refine calls_by Tryd.func6 rfl rfl rfl ?_
 unfold s6 at h
 have hk0 : Kp [] H H := Kp.refl H
 refine C_seq ?_
 refine C_reg ?_
 refine oN (.agg [.int .i64 p0.Groups, .int .i64 p0.Sources, .int .i64 p0.Bound, .int .i64 p0.Late, Sl.enc 38 T38.enc p0.Ops]) fun id3733 H3731 hi3734 hH3735 => ?_
 have hb3732 : H3731[id3733]? = some (some ⟨25, [.int .i64 p0.Groups, .int .i64 p0.Sources, .int .i64 p0.Bound, .int .i64 p0.Late, Sl.enc 38 T38.enc p0.Ops]⟩) := getL hi3734 hH3735
 have ho3736 := Own.mk2 hf hk0 (Nat.le_of_eq hi3734)
 have hk3737 := kpA hH3735 hk0
 refine oN (.agg [.str p2.Name, .int .i64 p2.Agg, .int .i64 p2.Windows_Kind, .int .i64 p2.Windows_Size, .int .i64 p2.Windows_Slide]) fun id3740 H3738 hi3741 hH3742 => ?_
 have hb3739 : H3738[id3740]? = some (some ⟨38, [.str p2.Name, .int .i64 p2.Agg, .int .i64 p2.Windows_Kind, .int .i64 p2.Windows_Size, .int .i64 p2.Windows_Slide]⟩) := getL hi3741 hH3742
 have ho3743 := Own.mk2 hf hk3737 (Nat.le_of_eq hi3741)
 have hn3744 := ne_of_lt hb3732 (Nat.le_of_eq hi3741)
 have hb3745 := getA hH3742 hb3732
 have hk3746 := kpA hH3742 hk3737
 refine oB (.bool false) ?_
 refine O_nil ?_
 refine keep_to [(1, .int .i64 p1), (3, .ptr id3733 0), (5, .ptr id3740 0)] [] rfl rfl ?_
 refine C_seq ?_
 refine C_reg ?_
 refine oP (.ptr id3733 4) ?_
 refine O_load (cl' := cl) (sl' := []) (Sl.enc 38 T38.enc p0.Ops) rfl rfl hb3745 (by cases p0.Ops <;> rfl) rfl rfl rfl (fun p h => ⟨h, fun e => by cases e⟩) ?_
 refine oQ (.int .i64 (Sl.len p0.Ops)) (len_sl (f := T38.enc) rfl rfl rfl rfl) ?_
 refine oA (.int .i64 (Sl.len p0.Ops)) ?_
 refine O_nil ?_
 refine keep_to [(1, .int .i64 p1), (3, .ptr id3733 0), (5, .ptr id3740 0), (7, .int .i64 (Sl.len p0.Ops))] [] rfl rfl ?_
 refine C_seq ?_
 refine C_seq ?_
 refine C_reg ?_
 refine oM (.int .i64 (Sl.len p0.Ops)) ?_
 refine oP (.bool (decide ((Sl.len p0.Ops : Int) < 1))) ?_
 rcases Bool.eq_false_or_eq_true (decide ((Sl.len p0.Ops : Int) < 1)) with hg3747 | hg3747
 ·replace h := ocond_t h hg3747
  refine O_move (sl' := []) (.bool true) rfl (congrArg (fun b => some (AV.bool b)) hg3747) rfl rfl rfl ?_
  refine O_skip rfl rfl ?_
  refine O_skip rfl rfl ?_
  refine oP (.bool true) ?_
  refine O_nil ?_
  refine keep_to [(1, .int .i64 p1), (3, .ptr id3733 0), (5, .ptr id3740 0), (7, .int .i64 (Sl.len p0.Ops)), (28, .bool true)] [] rfl rfl ?_
  refine C_true rfl ?_
  refine C_seq ?_
  refine C_reg ?_
  refine oK [] (wAwake (lo := lo)) ?_
  rintro _ H3748 _ ⟨rfl, hk3749, rfl⟩
  have hb3751 := hk3749.get0 hb3745
  have hb3752 := hk3749.get0 hb3739
  have hk3753 := hk3746.trans hk3749
  refine oA (.bool true) ?_
  refine O_nil ?_
  refine keep_to [(6, .bool true)] [] rfl rfl ?_
  refine C_ret ?_
  obtain rfl := Option.some.inj h
  exact ⟨_, rfl, rfl, hk3753, rfl⟩
 ·replace h := ocond_f h hg3747
  refine O_move (sl' := []) (.bool false) rfl (congrArg (fun b => some (AV.bool b)) hg3747) rfl rfl rfl ?_
  refine oM (.int .i64 (Sl.len p0.Ops)) ?_
  refine oP (.bool (decide ((Sl.len p0.Ops : Int) > 7))) ?_
  refine oP (.bool (decide ((Sl.len p0.Ops : Int) > 7))) ?_
  refine O_nil ?_
  refine keep_to [(1, .int .i64 p1), (3, .ptr id3733 0), (5, .ptr id3740 0), (7, .int .i64 (Sl.len p0.Ops)), (28, .bool (decide ((Sl.len p0.Ops : Int) > 7)))] [] rfl rfl ?_
  refine C_cond (decide ((Sl.len p0.Ops : Int) > 7)) rfl (fun hc3754 => ?_) (fun hc3754 => ?_)
  ·replace h := ocond_t h hc3754
   refine C_seq ?_
   refine C_reg ?_
   refine oK [] (wAwake (lo := lo)) ?_
   rintro _ H3755 _ ⟨rfl, hk3756, rfl⟩
   have hb3758 := hk3756.get0 hb3745
   have hb3759 := hk3756.get0 hb3739
   have hk3760 := hk3746.trans hk3756
   refine oA (.bool true) ?_
   refine O_nil ?_
   refine keep_to [(6, .bool true)] [] rfl rfl ?_
   refine C_ret ?_
   obtain rfl := Option.some.inj h
   exact ⟨_, rfl, rfl, hk3760, rfl⟩
  ·replace h := ocond_f h hc3754
   refine C_skip ?_
   refine C_seq ?_
   refine C_reg ?_
   refine oL (.agg [.int .i64 p0.Groups, .int .i64 p0.Sources, .int .i64 p0.Bound, .int .i64 p0.Late, Sl.enc 38 T38.enc p0.Ops]) hb3745 ?_
   obtain ⟨x3764, hx3765, h⟩ := obind_some h
   refine oK [.agg [.int .i64 p0.Groups, .int .i64 p0.Sources, .int .i64 p0.Bound, .int .i64 p0.Late, Sl.enc 38 T38.enc p0.Ops]] (w13 N (lo := lo) p0 (hf.kp hk3746) hx3765) ?_
   rintro _ H3761 _ ⟨rfl, hk3762, rfl⟩
   have hb3766 := hk3762.get0 hb3745
   have hb3767 := hk3762.get0 hb3739
   have hk3768 := hk3746.trans hk3762
   refine oM (.tup [.str x3764.1, .int .i64 x3764.2]) ?_
   refine oP (.str x3764.1) ?_
   refine oP (.int .i64 x3764.2) ?_
   refine oA (.str x3764.1) ?_
   refine oA (.int .i64 x3764.2) ?_
   refine O_nil ?_
   refine keep_to [(1, .int .i64 p1), (3, .ptr id3733 0), (5, .ptr id3740 0), (7, .int .i64 (Sl.len p0.Ops)), (8, .str x3764.1), (9, .int .i64 x3764.2)] [] rfl rfl ?_
   refine C_seq ?_
   refine C_reg ?_
   refine oM (.int .i64 p1) ?_
   refine oA (.int .i64 p1) ?_
   refine O_nil ?_
   refine keep_to [(3, .ptr id3733 0), (5, .ptr id3740 0), (7, .int .i64 (Sl.len p0.Ops)), (8, .str x3764.1), (9, .int .i64 x3764.2), (10, .int .i64 p1)] [] rfl rfl ?_
   obtain ⟨v3769, h3770, h⟩ := obind_some h
   refine C_join [3, 5, 7, 8, 9, 10] (fun env' H' sl' cl' => env' = [(3, .ptr id3733 0), (5, .ptr id3740 0), (7, .int .i64 (Sl.len p0.Ops)), (8, .str x3764.1), (9, .int .i64 x3764.2), (10, .int .i64 v3769)] ∧ sl' = [] ∧ cl = cl' ∧ Kp [] H H' ∧ H'[id3733]? = some (some ⟨25, [.int .i64 p0.Groups, .int .i64 p0.Sources, .int .i64 p0.Bound, .int .i64 p0.Late, Sl.enc 38 T38.enc p0.Ops]⟩) ∧ H'[id3740]? = some (some ⟨38, [.str p2.Name, .int .i64 p2.Agg, .int .i64 p2.Windows_Kind, .int .i64 p2.Windows_Size, .int .i64 p2.Windows_Slide]⟩)) ?_ ?_
   ·obtain ⟨v3771, h3772, h3770⟩ := obind_some h3770
    refine C_join [3, 5, 7, 8, 9, 10, 42] (fun env' H' sl' cl' => env' = [(3, .ptr id3733 0), (5, .ptr id3740 0), (7, .int .i64 (Sl.len p0.Ops)), (8, .str x3764.1), (9, .int .i64 x3764.2), (10, .int .i64 p1), (42, .bool v3771)] ∧ sl' = [] ∧ cl = cl' ∧ Kp [] H H' ∧ H'[id3733]? = some (some ⟨25, [.int .i64 p0.Groups, .int .i64 p0.Sources, .int .i64 p0.Bound, .int .i64 p0.Late, Sl.enc 38 T38.enc p0.Ops]⟩) ∧ H'[id3740]? = some (some ⟨38, [.str p2.Name, .int .i64 p2.Agg, .int .i64 p2.Windows_Kind, .int .i64 p2.Windows_Size, .int .i64 p2.Windows_Slide]⟩)) ?_ ?_
    ·refine C_reg ?_
     refine oM (.int .i64 p1) ?_
     refine oP (.bool (decide ((p1 : Int) < 0))) ?_
     rcases Bool.eq_false_or_eq_true (decide ((p1 : Int) < 0)) with hg3773 | hg3773
     ·replace h3772 := ocond_t h3772 hg3773
      refine O_move (sl' := []) (.bool true) rfl (congrArg (fun b => some (AV.bool b)) hg3773) rfl rfl rfl ?_
      refine O_skip rfl rfl ?_
      refine O_skip rfl rfl ?_
      refine O_skip rfl rfl ?_
      refine oP (.bool true) ?_
      refine O_nil ?_
      refine keep_to [(3, .ptr id3733 0), (5, .ptr id3740 0), (7, .int .i64 (Sl.len p0.Ops)), (8, .str x3764.1), (9, .int .i64 x3764.2), (10, .int .i64 p1), (42, .bool true)] [] rfl rfl ?_
      obtain rfl := Option.some.inj h3772
      exact ⟨rfl, rfl, rfl, hk3768, hb3766, hb3767⟩
     ·replace h3772 := ocond_f h3772 hg3773
      refine O_move (sl' := []) (.bool false) rfl (congrArg (fun b => some (AV.bool b)) hg3773) rfl rfl rfl ?_
      refine oM (.int .i64 p1) ?_
      refine oM (.int .i64 (Sl.len p0.Ops)) ?_
      refine oP (.bool (decide ((p1 : Int) ≥ Sl.len p0.Ops))) ?_
      refine oP (.bool (decide ((p1 : Int) ≥ Sl.len p0.Ops))) ?_
      refine O_nil ?_
      refine keep_to [(3, .ptr id3733 0), (5, .ptr id3740 0), (7, .int .i64 (Sl.len p0.Ops)), (8, .str x3764.1), (9, .int .i64 x3764.2), (10, .int .i64 p1), (42, .bool (decide ((p1 : Int) ≥ Sl.len p0.Ops)))] [] rfl rfl ?_
      obtain rfl := Option.some.inj h3772
      exact ⟨rfl, rfl, rfl, hk3768, hb3766, hb3767⟩
    ·rintro _ H3774 _ _ ⟨rfl, rfl, rfl, hk3775, hb3776, hb3777⟩
     refine C_cond (v3771) rfl (fun hc3778 => ?_) (fun hc3778 => ?_)
     ·replace h3770 := ocond_t h3770 hc3778
      refine C_reg ?_
      refine oM (.int .i64 (Sl.len p0.Ops)) ?_
      refine oP (.int .i64 (IntKind.wrap .i64 ((Sl.len p0.Ops) - 1))) ?_
      refine oA (.int .i64 (IntKind.wrap .i64 ((Sl.len p0.Ops) - 1))) ?_
      refine O_nil ?_
      refine keep_to [(3, .ptr id3733 0), (5, .ptr id3740 0), (7, .int .i64 (Sl.len p0.Ops)), (8, .str x3764.1), (9, .int .i64 x3764.2), (10, .int .i64 (IntKind.wrap .i64 ((Sl.len p0.Ops) - 1)))] [] rfl rfl ?_
      obtain rfl := Option.some.inj h3770
      exact ⟨rfl, rfl, rfl, hk3775, hb3776, hb3777⟩
     ·replace h3770 := ocond_f h3770 hc3778
      refine C_skip ?_
      obtain rfl := Option.some.inj h3770
      exact ⟨rfl, rfl, rfl, hk3775, hb3776, hb3777⟩
   ·rintro _ H3779 _ _ ⟨rfl, rfl, rfl, hk3780, hb3781, hb3782⟩
    refine C_seq ?_
    refine C_reg ?_
    refine oP (.ptr id3740 1) ?_
    refine oL (.int .i64 p2.Agg) hb3782 ?_
    refine oP (.ptr id3740 2) ?_
    refine oL (.agg [.int .i64 p2.Windows_Kind, .int .i64 p2.Windows_Size, .int .i64 p2.Windows_Slide]) hb3782 ?_
    refine oP (.agg [.str [113], .int .i64 p2.Agg, .int .i64 p2.Windows_Kind, .int .i64 p2.Windows_Size, .int .i64 p2.Windows_Slide]) ?_
    refine O_bslice (sl' := [50]) [(0, .agg [.str [113], .int .i64 p2.Agg, .int .i64 p2.Windows_Kind, .int .i64 p2.Windows_Size, .int .i64 p2.Windows_Slide])] [.agg [.str [113], .int .i64 p2.Agg, .int .i64 p2.Windows_Kind, .int .i64 p2.Windows_Size, .int .i64 p2.Windows_Slide]] rfl rfl rfl rfl rfl rfl ?_
    refine O_pure (sl' := [50]) (.agg [.int .i64 1, .int .i64 1, .int .i64 0, .int .i64 0, Sl.enc 38 T38.enc (some ([(T38.mk [113] p2.Agg p2.Windows_Kind p2.Windows_Size p2.Windows_Slide)], []))]) rfl rfl rfl rfl ?_
    refine O_alloc (sl' := [50]) [.int .i64 0, .int .i64 0, .int .i64 0, .int .i64 0, Sl.enc 38 T38.enc none] rfl rfl rfl rfl rfl fun id3785 H3783 hi3786 hH3787 => ?_
    have hb3784 : H3783[id3785]? = some (some ⟨25, [.int .i64 0, .int .i64 0, .int .i64 0, .int .i64 0, Sl.enc 38 T38.enc none]⟩) := getL hi3786 hH3787
    have ho3788 := Own.mk2 hf hk3780 (Nat.le_of_eq hi3786)
    have hn3789 := ne_of_lt hb3781 (Nat.le_of_eq hi3786)
    have hn3790 := ne_of_lt hb3782 (Nat.le_of_eq hi3786)
    have hb3791 := getA hH3787 hb3781
    have hb3792 := getA hH3787 hb3782
    have hk3793 := kpA hH3787 hk3780
    refine O_store (sl' := [50]) (cl' := cl) (.agg [.int .i64 1, .int .i64 1, .int .i64 0, .int .i64 0, Sl.enc 38 T38.enc (some ([(T38.mk [113] p2.Agg p2.Windows_Kind p2.Windows_Size p2.Windows_Slide)], []))]) rfl rfl rfl ho3788.lo hb3784 rfl rfl (by intro q hq; simp only [List.mem_cons, List.not_mem_nil, or_false] at hq; rcases hq with rfl <;> exact ⟨by simp, fun _ e => by cases e⟩) (fun i o h => .inr ⟨h, fun e => ho3788.cl i o h e.1⟩) fun H3794 hH3795 => ?_
    have hb3796 : H3794[id3785]? = some (some ⟨25, [.int .i64 1, .int .i64 1, .int .i64 0, .int .i64 0, Sl.enc 38 T38.enc (some ([(T38.mk [113] p2.Agg p2.Windows_Kind p2.Windows_Size p2.Windows_Slide)], []))]⟩) := getW hH3795 hb3784
    have hb3797 := getS hH3795 hn3789 hb3791
    have hb3798 := getS hH3795 hn3790 hb3792
    have hk3799 := kpS hH3795 ho3788.ge hk3793
    refine O_nil ?_
    refine keep_to [(3, .ptr id3733 0), (7, .int .i64 (Sl.len p0.Ops)), (8, .str x3764.1), (9, .int .i64 x3764.2), (10, .int .i64 v3769), (11, .ptr id3785 0)] [] rfl rfl ?_
    refine C_seq ?_
    refine C_reg ?_
    refine oL (.agg [.int .i64 1, .int .i64 1, .int .i64 0, .int .i64 0, Sl.enc 38 T38.enc (some ([(T38.mk [113] p2.Agg p2.Windows_Kind p2.Windows_Size p2.Windows_Slide)], []))]) hb3796 ?_
    obtain ⟨x3803, hx3804, h⟩ := obind_some h
    refine oK [.agg [.int .i64 1, .int .i64 1, .int .i64 0, .int .i64 0, Sl.enc 38 T38.enc (some ([(T38.mk [113] p2.Agg p2.Windows_Kind p2.Windows_Size p2.Windows_Slide)], []))]] (w13 N (lo := lo) (T25.mk 1 1 0 0 (some ([(T38.mk [113] p2.Agg p2.Windows_Kind p2.Windows_Size p2.Windows_Slide)], []))) (hf.kp hk3799) hx3804) ?_
    rintro _ H3800 _ ⟨rfl, hk3801, rfl⟩
    have hb3805 := hk3801.get0 hb3797
    have hb3806 := hk3801.get0 hb3796
    have hk3807 := hk3799.trans hk3801
    refine oM (.tup [.str x3803.1, .int .i64 x3803.2]) ?_
    refine oP (.str x3803.1) ?_
    refine oP (.int .i64 x3803.2) ?_
    refine oA (.str x3803.1) ?_
    refine oA (.int .i64 x3803.2) ?_
    refine O_nil ?_
    refine keep_to [(3, .ptr id3733 0), (7, .int .i64 (Sl.len p0.Ops)), (8, .str x3764.1), (9, .int .i64 x3764.2), (10, .int .i64 v3769), (12, .str x3803.1), (13, .int .i64 x3803.2)] [] rfl rfl ?_
    refine C_seq ?_
    refine C_reg ?_
    refine oP (.agg [.int .i64 1, .int .i64 1, .int .i64 0, .int .i64 0, Sl.enc 38 T38.enc none]) ?_
    obtain ⟨x3811, hx3812, h⟩ := obind_some h
    refine oK [.agg [.int .i64 1, .int .i64 1, .int .i64 0, .int .i64 0, Sl.enc 38 T38.enc none]] (w13 N (lo := lo) (T25.mk 1 1 0 0 none) (hf.kp hk3807) hx3812) ?_
    rintro _ H3808 _ ⟨rfl, hk3809, rfl⟩
    have hb3813 := hk3809.get0 hb3805
    have hk3814 := hk3807.trans hk3809
    refine oM (.tup [.str x3811.1, .int .i64 x3811.2]) ?_
    refine oP (.str x3811.1) ?_
    refine oP (.int .i64 x3811.2) ?_
    refine oA (.str x3811.1) ?_
    refine oA (.int .i64 x3811.2) ?_
    refine O_nil ?_
    refine keep_to [(3, .ptr id3733 0), (7, .int .i64 (Sl.len p0.Ops)), (8, .str x3764.1), (9, .int .i64 x3764.2), (10, .int .i64 v3769), (12, .str x3803.1), (13, .int .i64 x3803.2), (14, .str x3811.1), (15, .int .i64 x3811.2)] [] rfl rfl ?_
    refine C_seq ?_
    refine C_seq ?_
    refine C_reg ?_
    refine oM (.int .i64 x3764.2) ?_
    refine oP (.bool ((x3764.2 : Int) != 0)) ?_
    rcases Bool.eq_false_or_eq_true ((x3764.2 : Int) != 0) with hg3815 | hg3815
    ·replace h := ocond_t h hg3815
     refine O_move (sl' := []) (.bool true) rfl (congrArg (fun b => some (AV.bool b)) hg3815) rfl rfl rfl ?_
     refine O_skip rfl rfl ?_
     refine O_skip rfl rfl ?_
     refine oP (.bool true) ?_
     refine oM (.bool true) ?_
     refine O_skip rfl rfl ?_
     refine O_skip rfl rfl ?_
     refine oP (.bool true) ?_
     refine O_nil ?_
     refine keep_to [(3, .ptr id3733 0), (7, .int .i64 (Sl.len p0.Ops)), (8, .str x3764.1), (10, .int .i64 v3769), (12, .str x3803.1), (14, .str x3811.1), (71, .bool true)] [] rfl rfl ?_
     refine C_true rfl ?_
     refine C_seq ?_
     refine C_reg ?_
     refine oK [] (wAwake (lo := lo)) ?_
     rintro _ H3816 _ ⟨rfl, hk3817, rfl⟩
     have hb3819 := hk3817.get0 hb3813
     have hk3820 := hk3814.trans hk3817
     refine oA (.bool true) ?_
     refine O_nil ?_
     refine keep_to [(6, .bool true)] [] rfl rfl ?_
     refine C_ret ?_
     obtain rfl := Option.some.inj h
     exact ⟨_, rfl, rfl, hk3820, rfl⟩
    ·replace h := ocond_f h hg3815
     refine O_move (sl' := []) (.bool false) rfl (congrArg (fun b => some (AV.bool b)) hg3815) rfl rfl rfl ?_
     refine oM (.int .i64 x3803.2) ?_
     refine oP (.bool ((x3803.2 : Int) != 0)) ?_
     refine oP (.bool ((x3803.2 : Int) != 0)) ?_
     rcases Bool.eq_false_or_eq_true ((x3803.2 : Int) != 0) with hg3821 | hg3821
     ·replace h := ocond_t h hg3821
      refine O_move (sl' := []) (.bool true) rfl (congrArg (fun b => some (AV.bool b)) hg3821) rfl rfl rfl ?_
      refine O_skip rfl rfl ?_
      refine O_skip rfl rfl ?_
      refine oP (.bool true) ?_
      refine O_nil ?_
      refine keep_to [(3, .ptr id3733 0), (7, .int .i64 (Sl.len p0.Ops)), (8, .str x3764.1), (10, .int .i64 v3769), (12, .str x3803.1), (14, .str x3811.1), (71, .bool true)] [] rfl rfl ?_
      refine C_true rfl ?_
      refine C_seq ?_
      refine C_reg ?_
      refine oK [] (wAwake (lo := lo)) ?_
      rintro _ H3822 _ ⟨rfl, hk3823, rfl⟩
      have hb3825 := hk3823.get0 hb3813
      have hk3826 := hk3814.trans hk3823
      refine oA (.bool true) ?_
      refine O_nil ?_
      refine keep_to [(6, .bool true)] [] rfl rfl ?_
      refine C_ret ?_
      obtain rfl := Option.some.inj h
      exact ⟨_, rfl, rfl, hk3826, rfl⟩
     ·replace h := ocond_f h hg3821
      refine O_move (sl' := []) (.bool false) rfl (congrArg (fun b => some (AV.bool b)) hg3821) rfl rfl rfl ?_
      refine oM (.int .i64 x3811.2) ?_
      refine oP (.bool ((x3811.2 : Int) != 0)) ?_
      refine oP (.bool ((x3811.2 : Int) != 0)) ?_
      refine O_nil ?_
      refine keep_to [(3, .ptr id3733 0), (7, .int .i64 (Sl.len p0.Ops)), (8, .str x3764.1), (10, .int .i64 v3769), (12, .str x3803.1), (14, .str x3811.1), (71, .bool ((x3811.2 : Int) != 0))] [] rfl rfl ?_
      refine C_cond ((x3811.2 : Int) != 0) rfl (fun hc3827 => ?_) (fun hc3827 => ?_)
      ·replace h := ocond_t h hc3827
       refine C_seq ?_
       refine C_reg ?_
       refine oK [] (wAwake (lo := lo)) ?_
       rintro _ H3828 _ ⟨rfl, hk3829, rfl⟩
       have hb3831 := hk3829.get0 hb3813
       have hk3832 := hk3814.trans hk3829
       refine oA (.bool true) ?_
       refine O_nil ?_
       refine keep_to [(6, .bool true)] [] rfl rfl ?_
       refine C_ret ?_
       obtain rfl := Option.some.inj h
       exact ⟨_, rfl, rfl, hk3832, rfl⟩
      ·replace h := ocond_f h hc3827
       refine C_skip ?_
       refine C_seq ?_
       refine C_seq ?_
       refine C_reg ?_
       refine oM (.str x3803.1) ?_
       refine oP (.int .i64 ((List.length x3803.1 : Nat) : Int)) ?_
       refine oM (.str x3811.1) ?_
       refine oP (.int .i64 ((List.length x3811.1 : Nat) : Int)) ?_
       refine oP (.int .i64 (IntKind.wrap .i64 (((List.length x3811.1 : Nat) : Int) + 4))) ?_
       refine oP (.bool (decide ((((List.length x3803.1 : Nat) : Int) : Int) < IntKind.wrap .i64 (((List.length x3811.1 : Nat) : Int) + 4)))) ?_
       refine O_nil ?_
       refine keep_to [(3, .ptr id3733 0), (7, .int .i64 (Sl.len p0.Ops)), (8, .str x3764.1), (10, .int .i64 v3769), (12, .str x3803.1), (14, .str x3811.1), (78, .bool (decide ((((List.length x3803.1 : Nat) : Int) : Int) < IntKind.wrap .i64 (((List.length x3811.1 : Nat) : Int) + 4))))] [] rfl rfl ?_
       refine C_cond (decide ((((List.length x3803.1 : Nat) : Int) : Int) < IntKind.wrap .i64 (((List.length x3811.1 : Nat) : Int) + 4))) rfl (fun hc3833 => ?_) (fun hc3833 => ?_)
       ·replace h := ocond_t h hc3833
        refine C_seq ?_
        refine C_reg ?_
        refine oB (.bool false) ?_
        refine O_nil ?_
        refine keep_to [(6, .bool false)] [] rfl rfl ?_
        refine C_ret ?_
        obtain rfl := Option.some.inj h
        exact ⟨_, rfl, rfl, hk3814, rfl⟩
       ·replace h := ocond_f h hc3833
        refine C_skip ?_
        refine C_seq ?_
        refine C_reg ?_
        refine oM (.str x3803.1) ?_
        refine oM (.str x3811.1) ?_
        refine oP (.int .i64 ((List.length x3811.1 : Nat) : Int)) ?_
        obtain ⟨s3834, hx3835, h⟩ := obind_some h
        refine oQ (.str s3834) (cut_str (l := (some ((List.length x3811.1 : Nat) : Int))) (h := none) rfl rfl rfl rfl hx3835) ?_
        refine oA (.str s3834) ?_
        refine O_nil ?_
        refine keep_to [(3, .ptr id3733 0), (7, .int .i64 (Sl.len p0.Ops)), (8, .str x3764.1), (10, .int .i64 v3769), (16, .str s3834)] [] rfl rfl ?_
        refine C_seq ?_
        refine C_drawB none (m := true) (q := 1) rfl rfl rfl fun b3836 H3838 hb3837 hH3839 => ?_
        have hz3840 : H3838[b3836 + 0]? = some none := getZ hH3839 hb3837 (by decide)
        have hb3841 := getA hH3839 hb3813
        have hk3842 := kpA hH3839 hk3814
        refine oM (.str x3764.1) ?_
        obtain ⟨s3843, hx3844, h⟩ := obind_some h
        refine oQ (.str s3843) (add_strO rfl rfl hx3844) ?_
        refine oP (.ptr id3733 4) ?_
        refine O_load (cl' := cl) (sl' := []) (Sl.enc 38 T38.enc p0.Ops) rfl rfl hb3841 (by cases p0.Ops <;> rfl) rfl rfl rfl (fun p h => ⟨h, fun e => by cases e⟩) ?_
        refine oM (.int .i64 v3769) ?_
        obtain ⟨o3845, hx3846, h⟩ := obind_some h
        refine oQ (.ept [.str o3845.Name, .int .i64 o3845.Agg, .int .i64 o3845.Windows_Kind, .int .i64 o3845.Windows_Size, .int .i64 o3845.Windows_Slide] 0) (idx_sl (f := T38.enc) rfl rfl rfl hx3846) ?_
        refine oP (.ept [.str o3845.Name, .int .i64 o3845.Agg, .int .i64 o3845.Windows_Kind, .int .i64 o3845.Windows_Size, .int .i64 o3845.Windows_Slide] 0) ?_
        refine oE (.str o3845.Name) ?_
        obtain ⟨s3847, hx3848, h⟩ := obind_some h
        refine oQ (.str s3847) (add_strO rfl rfl hx3848) ?_
        refine oM (.str s3834) ?_
        obtain ⟨s3849, hx3850, h⟩ := obind_some h
        refine oQ (.str s3849) (cut_str (l := (some 4)) (h := none) rfl rfl rfl rfl hx3850) ?_
        obtain ⟨s3851, hx3852, h⟩ := obind_some h
        refine oQ (.str s3851) (add_strO rfl rfl hx3852) ?_
        obtain ⟨x3856, hx3857, h⟩ := obind_some h
        refine O_call (sl' := []) [.str s3851] rfl rfl rfl rfl (above_of (hf.kp hk3842)) rfl rfl (w10 N (lo := (max lo H3838.length)) s3851 (hf.kp hk3842).up hx3857) ?_
        rintro _ H3853 _ ⟨rfl, hk3854, rfl⟩
        have hz3858 : H3853[b3836 + 0]? = some none := hk3854.get0 hz3840
        have hb3859 := hk3854.get0 hb3841
        have hk3860 := hk3842.trans hk3854
        refine oM (.tup [.agg [.int .i64 x3856.1.Groups, .int .i64 x3856.1.Sources, .int .i64 x3856.1.Bound, .int .i64 x3856.1.Late, Sl.enc 38 T38.enc x3856.1.Ops], .int .i64 x3856.2.1, .int .i64 x3856.2.2]) ?_
        refine oP (.agg [.int .i64 x3856.1.Groups, .int .i64 x3856.1.Sources, .int .i64 x3856.1.Bound, .int .i64 x3856.1.Late, Sl.enc 38 T38.enc x3856.1.Ops]) ?_
        refine oP (.int .i64 x3856.2.1) ?_
        refine oP (.int .i64 x3856.2.2) ?_
        refine O_allocD (sl' := []) (q := 0) [.int .i64 0, .int .i64 0, .int .i64 0, .int .i64 0, Sl.enc 38 T38.enc none] rfl rfl rfl rfl hz3858 rfl rfl fun H3861 hH3863 => ?_
        have hb3862 : H3861[(b3836 + 0)]? = some (some ⟨25, [.int .i64 0, .int .i64 0, .int .i64 0, .int .i64 0, Sl.enc 38 T38.enc none]⟩) := by subst hH3863; exact get_set_same hz3858 _
        have ho3864 : Am.Own lo cl H (b3836 + 0) := Own.mk2 hf hk3814 (by omega)
        have hn3865 : id3733 ≠ (b3836 + 0) := ne_of_lt hb3813 (by omega)
        have hb3866 := getS hH3863 hn3865 hb3859
        have hk3867 := kpS hH3863 ho3864.ge hk3860
        refine O_store (sl' := []) (cl' := cl) (.agg [.int .i64 x3856.1.Groups, .int .i64 x3856.1.Sources, .int .i64 x3856.1.Bound, .int .i64 x3856.1.Late, Sl.enc 38 T38.enc x3856.1.Ops]) rfl rfl rfl ho3864.lo hb3862 rfl rfl (fun q h => by cases h) (fun i o h => .inr ⟨h, fun e => ho3864.cl i o h e.1⟩) fun H3868 hH3869 => ?_
        have hb3870 : H3868[(b3836 + 0)]? = some (some ⟨25, [.int .i64 x3856.1.Groups, .int .i64 x3856.1.Sources, .int .i64 x3856.1.Bound, .int .i64 x3856.1.Late, Sl.enc 38 T38.enc x3856.1.Ops]⟩) := getW hH3869 hb3862
        have hb3871 := getS hH3869 hn3865 hb3866
        have hk3872 := kpS hH3869 ho3864.ge hk3867
        refine oA (.int .i64 x3856.2.1) ?_
        refine oA (.int .i64 x3856.2.2) ?_
        refine O_nil ?_
        refine keep_to [(7, .int .i64 (Sl.len p0.Ops)), (18, .int .i64 x3856.2.1), (19, .int .i64 x3856.2.2)] [] rfl rfl ?_
        refine C_seq ?_
        refine C_reg ?_
        refine oM (.int .i64 x3856.2.1) ?_
        refine oM (.int .i64 (Sl.len p0.Ops)) ?_
        refine oP (.int .i64 (IntKind.wrap .i64 (5 + (Sl.len p0.Ops)))) ?_
        refine oP (.bool ((x3856.2.1 : Int) == IntKind.wrap .i64 (5 + (Sl.len p0.Ops)))) ?_
        rcases Bool.eq_false_or_eq_true ((x3856.2.1 : Int) == IntKind.wrap .i64 (5 + (Sl.len p0.Ops))) with hg3873 | hg3873
        ·replace h := ocond_t h hg3873
         refine O_move (sl' := []) (.bool true) rfl (congrArg (fun b => some (AV.bool b)) hg3873) rfl rfl rfl ?_
         refine oM (.int .i64 x3856.2.2) ?_
         refine oP (.bool ((x3856.2.2 : Int) == 7)) ?_
         refine oP (.bool ((x3856.2.2 : Int) == 7)) ?_
         rcases Bool.eq_false_or_eq_true ((x3856.2.2 : Int) == 7) with hg3874 | hg3874
         ·replace h := ocond_t h hg3874
          refine O_move (sl' := []) (.bool true) rfl (congrArg (fun b => some (AV.bool b)) hg3874) rfl rfl rfl ?_
          refine oK [] (wAwake (lo := lo)) ?_
          rintro _ H3875 _ ⟨rfl, hk3876, rfl⟩
          have hk3878 := hk3872.trans hk3876
          refine oP (.bool true) ?_
          refine oA (.bool true) ?_
          refine O_nil ?_
          refine keep_to [(6, .bool true)] [] rfl rfl ?_
          refine C_ret ?_
          obtain rfl := Option.some.inj h
          exact ⟨_, rfl, rfl, hk3878, rfl⟩
         ·replace h := ocond_f h hg3874
          refine O_move (sl' := []) (.bool false) rfl (congrArg (fun b => some (AV.bool b)) hg3874) rfl rfl rfl ?_
          refine O_skip rfl rfl ?_
          refine oP (.bool false) ?_
          refine oA (.bool false) ?_
          refine O_nil ?_
          refine keep_to [(6, .bool false)] [] rfl rfl ?_
          refine C_ret ?_
          obtain rfl := Option.some.inj h
          exact ⟨_, rfl, rfl, hk3872, rfl⟩
        ·replace h := ocond_f h hg3873
         refine O_move (sl' := []) (.bool false) rfl (congrArg (fun b => some (AV.bool b)) hg3873) rfl rfl rfl ?_
         refine O_skip rfl rfl ?_
         refine O_skip rfl rfl ?_
         refine oP (.bool false) ?_
         refine oM (.bool false) ?_
         refine O_skip rfl rfl ?_
         refine oP (.bool false) ?_
         refine oA (.bool false) ?_
         refine O_nil ?_
         refine keep_to [(6, .bool false)] [] rfl rfl ?_
         refine C_ret ?_
         obtain rfl := Option.some.inj h
         exact ⟨_, rfl, rfl, hk3872, rfl⟩
end Go.Proofs.YtecdcnacjlcjoaaDoor.Job

/- Job: walks (GL8). Printed by a small program. -/
namespace Go.Proofs.YtecdcnacjlcjoaaDoor.Job
open Am
set_option linter.unusedVariables false
set_option linter.unusedSimpArgs false
end Go.Proofs.YtecdcnacjlcjoaaDoor.Job
