/- Job: walks (GD). Printed by a small program. -/
import Derived.Test.YtecdcnacjlcjoaaDoorM5
import Derived.Test.YtecdcnacjlcjoaaDoorM6
/- Job: walks (GD). Printed by a small program. -/
namespace Go.Proofs.YtecdcnacjlcjoaaDoor.Job
open Am
set_option linter.unusedVariables false
set_option linter.unusedSimpArgs false
set_option linter.unusedVariables false in
def s47_l0 (N : Nat) (p0 : Bs) (k1571 : Unit → Option Bool) : Nat → Int → Option Bool
  | 0, _ => none
  | n + 1, v7 => (
cond (decide ((v7 : Int) < ((List.length p0 : Nat) : Int)))
 (Option.bind (strAt p0 v7) fun c1576 =>
cond (decide ((c1576 : Int) ≥ 97))
 (cond (decide ((c1576 : Int) ≤ 122))
 (s47_l0 N p0 k1571 n (IntKind.wrap .i64 (v7 + 1)))
 (cond (decide ((v7 : Int) > 0))
 (cond (decide ((c1576 : Int) ≥ 48))
 (cond (!(decide ((c1576 : Int) ≤ 57)))
 (some false)
 (s47_l0 N p0 k1571 n (IntKind.wrap .i64 (v7 + 1))))
 (some false))
 (some false)))
 (cond (decide ((v7 : Int) > 0))
 (cond (decide ((c1576 : Int) ≥ 48))
 (cond (!(decide ((c1576 : Int) ≤ 57)))
 (some false)
 (s47_l0 N p0 k1571 n (IntKind.wrap .i64 (v7 + 1))))
 (some false))
 (some false)))
 (k1571 ()))
/- freshet/job.named -/
def s47 (N : Nat) (p0 : Bs) : Option Bool :=
jn (fun (e1570 : Unit) =>
cond (decide ((((List.length p0 : Nat) : Int) : Int) ≥ 1))
 (some (decide ((((List.length p0 : Nat) : Int) : Int) ≤ 16)))
 (some false)) fun k1571 => s47_l0 N p0 k1571 N 0
set_option maxRecDepth 8000 in
set_option maxHeartbeats 4000000 in
theorem w47 (N : Nat) {lo : Nat} {cl : Cl} {H : Hp} (p0 : Bs) (hf : Fit lo cl H) {r : Bool} (h : s47 N p0 = some r) : CallsR Tryd.prog (Kj lo) 47 [.str p0] H (cl) fun x H' cl' => x = .bool r ∧ Kp [] H H' ∧ cl = cl' := by
 refine calls_by Tryd.func47 rfl rfl rfl ?_
 unfold s47 at h
 have hk0 : Kp [] H H := Kp.refl H
 refine C_seq ?_
 refine C_reg ?_
 refine oB (.bool false) ?_
 refine O_nil ?_
 refine keep_to [(0, .str p0)] [] rfl rfl ?_
 refine C_seq ?_
 refine C_seq ?_
 refine C_reg ?_
 refine oM (.str p0) ?_
 refine oP (.int .i64 ((List.length p0 : Nat) : Int)) ?_
 refine oC (.int .i64 0) ?_
 refine O_nil ?_
 refine keep_to [(0, .str p0), (6, .int .i64 ((List.length p0 : Nat) : Int)), (7, .int .i64 0)] [] rfl rfl ?_
 refine C_block ?_
 obtain ⟨k1571, hk1572, h⟩ := jn_some h
 refine C_loopE [0, 6, 7] (fun n env' H' sl' cl' => ∃ (v7 : Int), env' = [(0, .str p0), (6, .int .i64 ((List.length p0 : Nat) : Int)), (7, .int .i64 v7)] ∧ sl' = [] ∧ cl = cl' ∧ Kp [] H H' ∧ s47_l0 N p0 k1571 n v7 = some r) 0 [0] (fun env' H' sl' cl' => ∃ (e1570 : Unit), env' = [(0, .str p0)] ∧ sl' = [] ∧ cl = cl' ∧ Kp [] H H' ∧ k1571 e1570 = some r) N ⟨0, rfl, rfl, rfl, hk0, h⟩ ?_ ?_
 ·rintro n _ H1573 _ _ ⟨v7, rfl, rfl, rfl, hk1574, h⟩
  cases n with
  | zero => rw [s47_l0] at h; cases h
  | succ n =>
  rw [s47_l0] at h
  refine C_seq ?_
  refine C_reg ?_
  refine oP (.bool (decide ((v7 : Int) < ((List.length p0 : Nat) : Int)))) ?_
  refine O_nil ?_
  refine keep_to [(0, .str p0), (6, .int .i64 ((List.length p0 : Nat) : Int)), (7, .int .i64 v7), (8, .bool (decide ((v7 : Int) < ((List.length p0 : Nat) : Int))))] [] rfl rfl ?_
  refine C_seq ?_
  refine C_cond (decide ((v7 : Int) < ((List.length p0 : Nat) : Int))) rfl (fun hc1575 => ?_) (fun hc1575 => ?_)
  ·replace h := ocond_t h hc1575
   refine C_skip ?_
   refine C_seq ?_
   refine C_block ?_
   refine C_seq ?_
   refine C_reg ?_
   refine oM (.int .i64 v7) ?_
   refine oA (.int .i64 v7) ?_
   refine O_nil ?_
   refine keep_to [(0, .str p0), (3, .int .i64 v7), (6, .int .i64 ((List.length p0 : Nat) : Int)), (7, .int .i64 v7)] [] rfl rfl ?_
   refine C_seq ?_
   refine C_reg ?_
   refine oM (.str p0) ?_
   refine oM (.int .i64 v7) ?_
   obtain ⟨c1576, hx1577, h⟩ := obind_some h
   refine oQ (.int .u8 c1576) (idx_strI rfl rfl rfl hx1577) ?_
   refine oA (.int .u8 c1576) ?_
   refine O_nil ?_
   refine keep_to [(0, .str p0), (3, .int .i64 v7), (4, .int .u8 c1576), (6, .int .i64 ((List.length p0 : Nat) : Int)), (7, .int .i64 v7)] [] rfl rfl ?_
   refine C_seq ?_
   refine C_reg ?_
   refine oM (.int .u8 c1576) ?_
   refine oP (.bool (decide ((c1576 : Int) ≥ 97))) ?_
   rcases Bool.eq_false_or_eq_true (decide ((c1576 : Int) ≥ 97)) with hg1578 | hg1578
   ·replace h := ocond_t h hg1578
    refine O_move (sl' := []) (.bool true) rfl (congrArg (fun b => some (AV.bool b)) hg1578) rfl rfl rfl ?_
    refine oM (.int .u8 c1576) ?_
    refine oP (.bool (decide ((c1576 : Int) ≤ 122))) ?_
    refine oP (.bool (decide ((c1576 : Int) ≤ 122))) ?_
    rcases Bool.eq_false_or_eq_true (decide ((c1576 : Int) ≤ 122)) with hg1579 | hg1579
    ·replace h := ocond_t h hg1579
     refine O_move (sl' := []) (.bool true) rfl (congrArg (fun b => some (AV.bool b)) hg1579) rfl rfl rfl ?_
     refine O_skip rfl rfl ?_
     refine O_skip rfl rfl ?_
     refine O_skip rfl rfl ?_
     refine O_skip rfl rfl ?_
     refine O_skip rfl rfl ?_
     refine O_skip rfl rfl ?_
     refine O_skip rfl rfl ?_
     refine O_skip rfl rfl ?_
     refine O_skip rfl rfl ?_
     refine O_skip rfl rfl ?_
     refine oP (.bool true) ?_
     refine oP (.bool false) ?_
     refine O_nil ?_
     refine keep_to [(0, .str p0), (6, .int .i64 ((List.length p0 : Nat) : Int)), (7, .int .i64 v7), (31, .bool false)] [] rfl rfl ?_
     refine C_false rfl ?_
     refine C_skip ?_
     refine C_reg ?_
     refine oP (.int .i64 (IntKind.wrap .i64 (v7 + 1))) ?_
     refine oM (.int .i64 (IntKind.wrap .i64 (v7 + 1))) ?_
     refine O_nil ?_
     refine keep_to [(0, .str p0), (6, .int .i64 ((List.length p0 : Nat) : Int)), (7, .int .i64 (IntKind.wrap .i64 (v7 + 1)))] [] rfl rfl ?_
     exact ⟨n, Nat.lt_succ_self n, (IntKind.wrap .i64 (v7 + 1)), rfl, rfl, rfl, hk1574, h⟩
    ·replace h := ocond_f h hg1579
     refine O_move (sl' := []) (.bool false) rfl (congrArg (fun b => some (AV.bool b)) hg1579) rfl rfl rfl ?_
     refine oM (.int .i64 v7) ?_
     refine oP (.bool (decide ((v7 : Int) > 0))) ?_
     rcases Bool.eq_false_or_eq_true (decide ((v7 : Int) > 0)) with hg1580 | hg1580
     ·replace h := ocond_t h hg1580
      refine O_move (sl' := []) (.bool true) rfl (congrArg (fun b => some (AV.bool b)) hg1580) rfl rfl rfl ?_
      refine oM (.int .u8 c1576) ?_
      refine oP (.bool (decide ((c1576 : Int) ≥ 48))) ?_
      refine oP (.bool (decide ((c1576 : Int) ≥ 48))) ?_
      rcases Bool.eq_false_or_eq_true (decide ((c1576 : Int) ≥ 48)) with hg1581 | hg1581
      ·replace h := ocond_t h hg1581
       refine O_move (sl' := []) (.bool true) rfl (congrArg (fun b => some (AV.bool b)) hg1581) rfl rfl rfl ?_
       refine oM (.int .u8 c1576) ?_
       refine oP (.bool (decide ((c1576 : Int) ≤ 57))) ?_
       refine oP (.bool (decide ((c1576 : Int) ≤ 57))) ?_
       refine oP (.bool (decide ((c1576 : Int) ≤ 57))) ?_
       refine oP (.bool (!(decide ((c1576 : Int) ≤ 57)))) ?_
       refine O_nil ?_
       refine keep_to [(0, .str p0), (6, .int .i64 ((List.length p0 : Nat) : Int)), (7, .int .i64 v7), (31, .bool (!(decide ((c1576 : Int) ≤ 57))))] [] rfl rfl ?_
       refine C_cond (!(decide ((c1576 : Int) ≤ 57))) rfl (fun hc1582 => ?_) (fun hc1582 => ?_)
       ·replace h := ocond_t h hc1582
        refine C_seq ?_
        refine C_reg ?_
        refine oB (.bool false) ?_
        refine O_nil ?_
        refine keep_to [(2, .bool false)] [] rfl rfl ?_
        refine C_ret ?_
        obtain rfl := Option.some.inj h
        exact ⟨_, rfl, rfl, hk1574, rfl⟩
       ·replace h := ocond_f h hc1582
        refine C_skip ?_
        refine C_reg ?_
        refine oP (.int .i64 (IntKind.wrap .i64 (v7 + 1))) ?_
        refine oM (.int .i64 (IntKind.wrap .i64 (v7 + 1))) ?_
        refine O_nil ?_
        refine keep_to [(0, .str p0), (6, .int .i64 ((List.length p0 : Nat) : Int)), (7, .int .i64 (IntKind.wrap .i64 (v7 + 1)))] [] rfl rfl ?_
        exact ⟨n, Nat.lt_succ_self n, (IntKind.wrap .i64 (v7 + 1)), rfl, rfl, rfl, hk1574, h⟩
      ·replace h := ocond_f h hg1581
       refine O_move (sl' := []) (.bool false) rfl (congrArg (fun b => some (AV.bool b)) hg1581) rfl rfl rfl ?_
       refine O_skip rfl rfl ?_
       refine O_skip rfl rfl ?_
       refine oP (.bool false) ?_
       refine oP (.bool false) ?_
       refine oP (.bool true) ?_
       refine O_nil ?_
       refine keep_to [(0, .str p0), (6, .int .i64 ((List.length p0 : Nat) : Int)), (7, .int .i64 v7), (31, .bool true)] [] rfl rfl ?_
       refine C_true rfl ?_
       refine C_seq ?_
       refine C_reg ?_
       refine oB (.bool false) ?_
       refine O_nil ?_
       refine keep_to [(2, .bool false)] [] rfl rfl ?_
       refine C_ret ?_
       obtain rfl := Option.some.inj h
       exact ⟨_, rfl, rfl, hk1574, rfl⟩
     ·replace h := ocond_f h hg1580
      refine O_move (sl' := []) (.bool false) rfl (congrArg (fun b => some (AV.bool b)) hg1580) rfl rfl rfl ?_
      refine O_skip rfl rfl ?_
      refine O_skip rfl rfl ?_
      refine oP (.bool false) ?_
      refine oM (.bool false) ?_
      refine O_skip rfl rfl ?_
      refine O_skip rfl rfl ?_
      refine oP (.bool false) ?_
      refine oP (.bool false) ?_
      refine oP (.bool true) ?_
      refine O_nil ?_
      refine keep_to [(0, .str p0), (6, .int .i64 ((List.length p0 : Nat) : Int)), (7, .int .i64 v7), (31, .bool true)] [] rfl rfl ?_
      refine C_true rfl ?_
      refine C_seq ?_
      refine C_reg ?_
      refine oB (.bool false) ?_
      refine O_nil ?_
      refine keep_to [(2, .bool false)] [] rfl rfl ?_
      refine C_ret ?_
      obtain rfl := Option.some.inj h
      exact ⟨_, rfl, rfl, hk1574, rfl⟩
   ·replace h := ocond_f h hg1578
    refine O_move (sl' := []) (.bool false) rfl (congrArg (fun b => some (AV.bool b)) hg1578) rfl rfl rfl ?_
    refine O_skip rfl rfl ?_
    refine O_skip rfl rfl ?_
    refine oP (.bool false) ?_
    refine oM (.bool false) ?_
    refine oM (.int .i64 v7) ?_
    refine oP (.bool (decide ((v7 : Int) > 0))) ?_
    rcases Bool.eq_false_or_eq_true (decide ((v7 : Int) > 0)) with hg1583 | hg1583
    ·replace h := ocond_t h hg1583
     refine O_move (sl' := []) (.bool true) rfl (congrArg (fun b => some (AV.bool b)) hg1583) rfl rfl rfl ?_
     refine oM (.int .u8 c1576) ?_
     refine oP (.bool (decide ((c1576 : Int) ≥ 48))) ?_
     refine oP (.bool (decide ((c1576 : Int) ≥ 48))) ?_
     rcases Bool.eq_false_or_eq_true (decide ((c1576 : Int) ≥ 48)) with hg1584 | hg1584
     ·replace h := ocond_t h hg1584
      refine O_move (sl' := []) (.bool true) rfl (congrArg (fun b => some (AV.bool b)) hg1584) rfl rfl rfl ?_
      refine oM (.int .u8 c1576) ?_
      refine oP (.bool (decide ((c1576 : Int) ≤ 57))) ?_
      refine oP (.bool (decide ((c1576 : Int) ≤ 57))) ?_
      refine oP (.bool (decide ((c1576 : Int) ≤ 57))) ?_
      refine oP (.bool (!(decide ((c1576 : Int) ≤ 57)))) ?_
      refine O_nil ?_
      refine keep_to [(0, .str p0), (6, .int .i64 ((List.length p0 : Nat) : Int)), (7, .int .i64 v7), (31, .bool (!(decide ((c1576 : Int) ≤ 57))))] [] rfl rfl ?_
      refine C_cond (!(decide ((c1576 : Int) ≤ 57))) rfl (fun hc1585 => ?_) (fun hc1585 => ?_)
      ·replace h := ocond_t h hc1585
       refine C_seq ?_
       refine C_reg ?_
       refine oB (.bool false) ?_
       refine O_nil ?_
       refine keep_to [(2, .bool false)] [] rfl rfl ?_
       refine C_ret ?_
       obtain rfl := Option.some.inj h
       exact ⟨_, rfl, rfl, hk1574, rfl⟩
      ·replace h := ocond_f h hc1585
       refine C_skip ?_
       refine C_reg ?_
       refine oP (.int .i64 (IntKind.wrap .i64 (v7 + 1))) ?_
       refine oM (.int .i64 (IntKind.wrap .i64 (v7 + 1))) ?_
       refine O_nil ?_
       refine keep_to [(0, .str p0), (6, .int .i64 ((List.length p0 : Nat) : Int)), (7, .int .i64 (IntKind.wrap .i64 (v7 + 1)))] [] rfl rfl ?_
       exact ⟨n, Nat.lt_succ_self n, (IntKind.wrap .i64 (v7 + 1)), rfl, rfl, rfl, hk1574, h⟩
     ·replace h := ocond_f h hg1584
      refine O_move (sl' := []) (.bool false) rfl (congrArg (fun b => some (AV.bool b)) hg1584) rfl rfl rfl ?_
      refine O_skip rfl rfl ?_
      refine O_skip rfl rfl ?_
      refine oP (.bool false) ?_
      refine oP (.bool false) ?_
      refine oP (.bool true) ?_
      refine O_nil ?_
      refine keep_to [(0, .str p0), (6, .int .i64 ((List.length p0 : Nat) : Int)), (7, .int .i64 v7), (31, .bool true)] [] rfl rfl ?_
      refine C_true rfl ?_
      refine C_seq ?_
      refine C_reg ?_
      refine oB (.bool false) ?_
      refine O_nil ?_
      refine keep_to [(2, .bool false)] [] rfl rfl ?_
      refine C_ret ?_
      obtain rfl := Option.some.inj h
      exact ⟨_, rfl, rfl, hk1574, rfl⟩
    ·replace h := ocond_f h hg1583
     refine O_move (sl' := []) (.bool false) rfl (congrArg (fun b => some (AV.bool b)) hg1583) rfl rfl rfl ?_
     refine O_skip rfl rfl ?_
     refine O_skip rfl rfl ?_
     refine oP (.bool false) ?_
     refine oM (.bool false) ?_
     refine O_skip rfl rfl ?_
     refine O_skip rfl rfl ?_
     refine oP (.bool false) ?_
     refine oP (.bool false) ?_
     refine oP (.bool true) ?_
     refine O_nil ?_
     refine keep_to [(0, .str p0), (6, .int .i64 ((List.length p0 : Nat) : Int)), (7, .int .i64 v7), (31, .bool true)] [] rfl rfl ?_
     refine C_true rfl ?_
     refine C_seq ?_
     refine C_reg ?_
     refine oB (.bool false) ?_
     refine O_nil ?_
     refine keep_to [(2, .bool false)] [] rfl rfl ?_
     refine C_ret ?_
     obtain rfl := Option.some.inj h
     exact ⟨_, rfl, rfl, hk1574, rfl⟩
  ·replace h := ocond_f h hc1575
   refine C_exit ?_
   exact ⟨_, rfl, rfl, rfl, hk1574, h⟩
 ·rintro _ H1586 _ _ ⟨e1570, rfl, rfl, rfl, hk1587, h⟩
  subst hk1572
  refine C_seq ?_
  refine C_reg ?_
  refine oM (.str p0) ?_
  refine oP (.int .i64 ((List.length p0 : Nat) : Int)) ?_
  refine oP (.bool (decide ((((List.length p0 : Nat) : Int) : Int) ≥ 1))) ?_
  rcases Bool.eq_false_or_eq_true (decide ((((List.length p0 : Nat) : Int) : Int) ≥ 1)) with hg1588 | hg1588
  ·replace h := ocond_t h hg1588
   refine O_move (sl' := []) (.bool true) rfl (congrArg (fun b => some (AV.bool b)) hg1588) rfl rfl rfl ?_
   refine oM (.str p0) ?_
   refine oP (.int .i64 ((List.length p0 : Nat) : Int)) ?_
   refine oP (.bool (decide ((((List.length p0 : Nat) : Int) : Int) ≤ 16))) ?_
   refine oP (.bool (decide ((((List.length p0 : Nat) : Int) : Int) ≤ 16))) ?_
   refine oA (.bool (decide ((((List.length p0 : Nat) : Int) : Int) ≤ 16))) ?_
   refine O_nil ?_
   refine keep_to [(2, .bool (decide ((((List.length p0 : Nat) : Int) : Int) ≤ 16)))] [] rfl rfl ?_
   refine C_ret ?_
   obtain rfl := Option.some.inj h
   exact ⟨_, rfl, rfl, hk1587, rfl⟩
  ·replace h := ocond_f h hg1588
   refine O_move (sl' := []) (.bool false) rfl (congrArg (fun b => some (AV.bool b)) hg1588) rfl rfl rfl ?_
   refine O_skip rfl rfl ?_
   refine O_skip rfl rfl ?_
   refine O_skip rfl rfl ?_
   refine oP (.bool false) ?_
   refine oA (.bool false) ?_
   refine O_nil ?_
   refine keep_to [(2, .bool false)] [] rfl rfl ?_
   refine C_ret ?_
   obtain rfl := Option.some.inj h
   exact ⟨_, rfl, rfl, hk1587, rfl⟩
set_option maxRecDepth 8000 in
set_option maxHeartbeats 4000000 in
theorem w61 (N : Nat) {lo : Nat} {cl : Cl} {H : Hp} (hf : Fit lo cl H) : CallsR Tryd.prog (Kj lo) 61 [] H (cl) fun x H' cl' => ∃ ida, x = .agg [.nilfn, .nilfn, .fn 75 [], .fn 77 [.ptr ida 0], .fn 78 [], .fn 79 [.ptr ida 0], .fn 75 [], .fn 80 []] ∧ H.length ≤ ida ∧ H'[ida]? = some (some ⟨113, [.fn 74 []]⟩) ∧ Kp [] H H' ∧ cl = cl' := by
 refine calls_by Tryd.func61 rfl rfl rfl ?_
 have hk0 : Kp [] H H := Kp.refl H
 refine C_seq ?_
 refine C_reg ?_
 refine oZ [.nilfn, .nilfn, .nilfn, .nilfn, .nilfn, .nilfn, .nilfn, .nilfn] fun id1624 H1622 hi1625 hH1626 => ?_
 have hb1623 : H1622[id1624]? = some (some ⟨100, [.nilfn, .nilfn, .nilfn, .nilfn, .nilfn, .nilfn, .nilfn, .nilfn]⟩) := getL hi1625 hH1626
 have ho1627 := Own.mk2 hf hk0 (Nat.le_of_eq hi1625)
 have hk1628 := kpA hH1626 hk0
 refine O_nil ?_
 refine keep_to [(0, .ptr id1624 0)] [] rfl rfl ?_
 refine C_seq ?_
 refine C_reg ?_
 refine oZ [.nilfn] fun id1631 H1629 hi1632 hH1633 => ?_
 have hb1630 : H1629[id1631]? = some (some ⟨113, [.nilfn]⟩) := getL hi1632 hH1633
 have ho1634 := Own.mk2 hf hk1628 (Nat.le_of_eq hi1632)
 have hn1635 := ne_of_lt hb1623 (Nat.le_of_eq hi1632)
 have hb1636 := getA hH1633 hb1623
 have hk1637 := kpA hH1633 hk1628
 refine O_store (sl' := []) (cl' := cl) (.fn 74 []) rfl rfl rfl ho1634.lo hb1630 rfl rfl (fun q h => by cases h) (fun i o h => .inr ⟨h, fun e => ho1634.cl i o h e.1⟩) fun H1638 hH1639 => ?_
 have hb1640 : H1638[id1631]? = some (some ⟨113, [.fn 74 []]⟩) := getW hH1639 hb1630
 have hb1641 := getS hH1639 hn1635 hb1636
 have hk1642 := kpS hH1639 ho1634.ge hk1637
 refine O_nil ?_
 refine keep_to [(0, .ptr id1624 0), (1, .ptr id1631 0)] [] rfl rfl ?_
 refine C_seq ?_
 refine C_reg ?_
 refine oB (.fn 75 []) ?_
 refine O_nil ?_
 refine keep_to [(0, .ptr id1624 0), (1, .ptr id1631 0), (2, .fn 75 [])] [] rfl rfl ?_
 refine C_seq ?_
 refine C_reg ?_
 refine oM (.fn 75 []) ?_
 refine oP (.fn 77 [.ptr id1631 0]) ?_
 refine oP (.agg [.fn 75 [], .fn 77 [.ptr id1631 0]]) ?_
 refine oP (.fn 79 [.ptr id1631 0]) ?_
 refine oP (.agg [.fn 78 [], .fn 79 [.ptr id1631 0]]) ?_
 refine oM (.fn 75 []) ?_
 refine oP (.agg [.fn 75 [], .fn 80 []]) ?_
 refine oP (.agg [.nilfn, .nilfn, .fn 75 [], .fn 77 [.ptr id1631 0], .fn 78 [], .fn 79 [.ptr id1631 0], .fn 75 [], .fn 80 []]) ?_
 refine O_store (sl' := []) (cl' := cl) (.agg [.nilfn, .nilfn, .fn 75 [], .fn 77 [.ptr id1631 0], .fn 78 [], .fn 79 [.ptr id1631 0], .fn 75 [], .fn 80 []]) rfl rfl rfl ho1627.lo hb1641 rfl rfl (fun q h => by cases h) (fun i o h => .inr ⟨h, fun e => ho1627.cl i o h e.1⟩) fun H1643 hH1644 => ?_
 have hb1645 : H1643[id1624]? = some (some ⟨100, [.nilfn, .nilfn, .fn 75 [], .fn 77 [.ptr id1631 0], .fn 78 [], .fn 79 [.ptr id1631 0], .fn 75 [], .fn 80 []]⟩) := getW hH1644 hb1641
 have hb1646 := getS hH1644 (fun e => hn1635 e.symm) hb1640
 have hk1647 := kpS hH1644 ho1627.ge hk1642
 refine O_nil ?_
 refine keep_to [(0, .ptr id1624 0)] [] rfl rfl ?_
 refine C_ret ?_
 exact ⟨_, (ress_one (resE_cell rfl hb1645 rfl)), id1631, rfl, ho1634.ge, hb1646, hk1647, rfl⟩
/- freshet/window.span -/
def s76 (N : Nat) (p0 : Int) : Option Bool :=
cond (decide ((p0 : Int) ≥ 1))
 (some (decide ((p0 : Int) ≤ 1099511627776)))
 (some false)
set_option maxRecDepth 8000 in
set_option maxHeartbeats 4000000 in
theorem w76 (N : Nat) {lo : Nat} {cl : Cl} {H : Hp} (p0 : Int) (hf : Fit lo cl H) {r : Bool} (h : s76 N p0 = some r) : CallsR Tryd.prog (Kj lo) 76 [.int .i64 p0] H (cl) fun x H' cl' => x = .bool r ∧ Kp [] H H' ∧ cl = cl' := by
 refine calls_by Tryd.func76 rfl rfl rfl ?_
 unfold s76 at h
 have hk0 : Kp [] H H := Kp.refl H
 refine C_seq ?_
 refine C_reg ?_
 refine oB (.bool false) ?_
 refine O_nil ?_
 refine keep_to [(0, .int .i64 p0)] [] rfl rfl ?_
 refine C_seq ?_
 refine C_reg ?_
 refine oM (.int .i64 p0) ?_
 refine oP (.bool (decide ((p0 : Int) ≥ 1))) ?_
 rcases Bool.eq_false_or_eq_true (decide ((p0 : Int) ≥ 1)) with hg1689 | hg1689
 ·replace h := ocond_t h hg1689
  refine O_move (sl' := []) (.bool true) rfl (congrArg (fun b => some (AV.bool b)) hg1689) rfl rfl rfl ?_
  refine oM (.int .i64 p0) ?_
  refine oP (.bool (decide ((p0 : Int) ≤ 1099511627776))) ?_
  refine oP (.bool (decide ((p0 : Int) ≤ 1099511627776))) ?_
  refine oA (.bool (decide ((p0 : Int) ≤ 1099511627776))) ?_
  refine O_nil ?_
  refine keep_to [(2, .bool (decide ((p0 : Int) ≤ 1099511627776)))] [] rfl rfl ?_
  refine C_ret ?_
  obtain rfl := Option.some.inj h
  exact ⟨_, rfl, rfl, hk0, rfl⟩
 ·replace h := ocond_f h hg1689
  refine O_move (sl' := []) (.bool false) rfl (congrArg (fun b => some (AV.bool b)) hg1689) rfl rfl rfl ?_
  refine O_skip rfl rfl ?_
  refine O_skip rfl rfl ?_
  refine oP (.bool false) ?_
  refine oA (.bool false) ?_
  refine O_nil ?_
  refine keep_to [(2, .bool false)] [] rfl rfl ?_
  refine C_ret ?_
  obtain rfl := Option.some.inj h
  exact ⟨_, rfl, rfl, hk0, rfl⟩
/- freshet/window.kinds$2 -/
def s75 (N : Nat) (p0 : T36) : Option Bool :=
Option.bind (s76 N p0.Size) fun x1706 =>
cond (x1706)
 (some ((p0.Slide : Int) == 0))
 (some false)
set_option maxRecDepth 8000 in
set_option maxHeartbeats 4000000 in
theorem w75 (N : Nat) {lo : Nat} {cl : Cl} {H : Hp} (p0 : T36) (hf : Fit lo cl H) {r : Bool} (h : s75 N p0 = some r) : CallsR Tryd.prog (Kj lo) 75 [.agg [.int .i64 p0.Kind, .int .i64 p0.Size, .int .i64 p0.Slide]] H (cl) fun x H' cl' => x = .bool r ∧ Kp [] H H' ∧ cl = cl' := by
 refine calls_by Tryd.func75 rfl rfl rfl ?_
 unfold s75 at h
 have hk0 : Kp [] H H := Kp.refl H
 refine C_seq ?_
 refine C_reg ?_
 refine oN (.agg [.int .i64 p0.Kind, .int .i64 p0.Size, .int .i64 p0.Slide]) fun id1698 H1696 hi1699 hH1700 => ?_
 have hb1697 : H1696[id1698]? = some (some ⟨36, [.int .i64 p0.Kind, .int .i64 p0.Size, .int .i64 p0.Slide]⟩) := getL hi1699 hH1700
 have ho1701 := Own.mk2 hf hk0 (Nat.le_of_eq hi1699)
 have hk1702 := kpA hH1700 hk0
 refine oB (.bool false) ?_
 refine O_nil ?_
 refine keep_to [(1, .ptr id1698 0)] [] rfl rfl ?_
 refine C_seq ?_
 refine C_reg ?_
 refine oP (.ptr id1698 1) ?_
 refine oL (.int .i64 p0.Size) hb1697 ?_
 obtain ⟨x1706, hx1707, h⟩ := obind_some h
 refine oK [.int .i64 p0.Size] (w76 N (lo := lo) p0.Size (hf.kp hk1702) hx1707) ?_
 rintro _ H1703 _ ⟨rfl, hk1704, rfl⟩
 have hb1708 := hk1704.get0 hb1697
 have hk1709 := hk1702.trans hk1704
 rcases Bool.eq_false_or_eq_true (x1706) with hg1710 | hg1710
 ·replace h := ocond_t h hg1710
  refine O_move (sl' := []) (.bool true) rfl (congrArg (fun b => some (AV.bool b)) hg1710) rfl rfl rfl ?_
  refine oP (.ptr id1698 2) ?_
  refine oL (.int .i64 p0.Slide) hb1708 ?_
  refine oP (.bool ((p0.Slide : Int) == 0)) ?_
  refine oP (.bool ((p0.Slide : Int) == 0)) ?_
  refine oA (.bool ((p0.Slide : Int) == 0)) ?_
  refine O_nil ?_
  refine keep_to [(2, .bool ((p0.Slide : Int) == 0))] [] rfl rfl ?_
  refine C_ret ?_
  obtain rfl := Option.some.inj h
  exact ⟨_, rfl, rfl, hk1709, rfl⟩
 ·replace h := ocond_f h hg1710
  refine O_move (sl' := []) (.bool false) rfl (congrArg (fun b => some (AV.bool b)) hg1710) rfl rfl rfl ?_
  refine O_skip rfl rfl ?_
  refine O_skip rfl rfl ?_
  refine O_skip rfl rfl ?_
  refine oP (.bool false) ?_
  refine oA (.bool false) ?_
  refine O_nil ?_
  refine keep_to [(2, .bool false)] [] rfl rfl ?_
  refine C_ret ?_
  obtain rfl := Option.some.inj h
  exact ⟨_, rfl, rfl, hk1709, rfl⟩
/- freshet/window.kinds$4 -/
def s78 (N : Nat) (p0 : T36) : Option Bool :=
Option.bind (s76 N p0.Size) fun x1754 =>
cond (x1754)
 (Option.bind (s76 N p0.Slide) fun x1762 =>
cond (x1762)
 (some (decide ((p0.Size : Int) ≤ IntKind.wrap .i64 (8 * p0.Slide))))
 (some false))
 (some false)
set_option maxRecDepth 8000 in
set_option maxHeartbeats 4000000 in
theorem w78 (N : Nat) {lo : Nat} {cl : Cl} {H : Hp} (p0 : T36) (hf : Fit lo cl H) {r : Bool} (h : s78 N p0 = some r) : CallsR Tryd.prog (Kj lo) 78 [.agg [.int .i64 p0.Kind, .int .i64 p0.Size, .int .i64 p0.Slide]] H (cl) fun x H' cl' => x = .bool r ∧ Kp [] H H' ∧ cl = cl' := by
 refine calls_by Tryd.func78 rfl rfl rfl ?_
 unfold s78 at h
 have hk0 : Kp [] H H := Kp.refl H
 refine C_seq ?_
 refine C_reg ?_
 refine oN (.agg [.int .i64 p0.Kind, .int .i64 p0.Size, .int .i64 p0.Slide]) fun id1746 H1744 hi1747 hH1748 => ?_
 have hb1745 : H1744[id1746]? = some (some ⟨36, [.int .i64 p0.Kind, .int .i64 p0.Size, .int .i64 p0.Slide]⟩) := getL hi1747 hH1748
 have ho1749 := Own.mk2 hf hk0 (Nat.le_of_eq hi1747)
 have hk1750 := kpA hH1748 hk0
 refine oB (.bool false) ?_
 refine O_nil ?_
 refine keep_to [(1, .ptr id1746 0)] [] rfl rfl ?_
 refine C_seq ?_
 refine C_reg ?_
 refine oP (.ptr id1746 1) ?_
 refine oL (.int .i64 p0.Size) hb1745 ?_
 obtain ⟨x1754, hx1755, h⟩ := obind_some h
 refine oK [.int .i64 p0.Size] (w76 N (lo := lo) p0.Size (hf.kp hk1750) hx1755) ?_
 rintro _ H1751 _ ⟨rfl, hk1752, rfl⟩
 have hb1756 := hk1752.get0 hb1745
 have hk1757 := hk1750.trans hk1752
 rcases Bool.eq_false_or_eq_true (x1754) with hg1758 | hg1758
 ·replace h := ocond_t h hg1758
  refine O_move (sl' := []) (.bool true) rfl (congrArg (fun b => some (AV.bool b)) hg1758) rfl rfl rfl ?_
  refine oP (.ptr id1746 2) ?_
  refine oL (.int .i64 p0.Slide) hb1756 ?_
  obtain ⟨x1762, hx1763, h⟩ := obind_some h
  refine oK [.int .i64 p0.Slide] (w76 N (lo := lo) p0.Slide (hf.kp hk1757) hx1763) ?_
  rintro _ H1759 _ ⟨rfl, hk1760, rfl⟩
  have hb1764 := hk1760.get0 hb1756
  have hk1765 := hk1757.trans hk1760
  refine oP (.bool x1762) ?_
  rcases Bool.eq_false_or_eq_true (x1762) with hg1766 | hg1766
  ·replace h := ocond_t h hg1766
   refine O_move (sl' := []) (.bool true) rfl (congrArg (fun b => some (AV.bool b)) hg1766) rfl rfl rfl ?_
   refine oP (.ptr id1746 1) ?_
   refine oL (.int .i64 p0.Size) hb1764 ?_
   refine oP (.ptr id1746 2) ?_
   refine oL (.int .i64 p0.Slide) hb1764 ?_
   refine oP (.int .i64 (IntKind.wrap .i64 (8 * p0.Slide))) ?_
   refine oP (.bool (decide ((p0.Size : Int) ≤ IntKind.wrap .i64 (8 * p0.Slide)))) ?_
   refine oP (.bool (decide ((p0.Size : Int) ≤ IntKind.wrap .i64 (8 * p0.Slide)))) ?_
   refine oA (.bool (decide ((p0.Size : Int) ≤ IntKind.wrap .i64 (8 * p0.Slide)))) ?_
   refine O_nil ?_
   refine keep_to [(2, .bool (decide ((p0.Size : Int) ≤ IntKind.wrap .i64 (8 * p0.Slide))))] [] rfl rfl ?_
   refine C_ret ?_
   obtain rfl := Option.some.inj h
   exact ⟨_, rfl, rfl, hk1765, rfl⟩
  ·replace h := ocond_f h hg1766
   refine O_move (sl' := []) (.bool false) rfl (congrArg (fun b => some (AV.bool b)) hg1766) rfl rfl rfl ?_
   refine O_skip rfl rfl ?_
   refine O_skip rfl rfl ?_
   refine O_skip rfl rfl ?_
   refine O_skip rfl rfl ?_
   refine O_skip rfl rfl ?_
   refine O_skip rfl rfl ?_
   refine oP (.bool false) ?_
   refine oA (.bool false) ?_
   refine O_nil ?_
   refine keep_to [(2, .bool false)] [] rfl rfl ?_
   refine C_ret ?_
   obtain rfl := Option.some.inj h
   exact ⟨_, rfl, rfl, hk1765, rfl⟩
 ·replace h := ocond_f h hg1758
  refine O_move (sl' := []) (.bool false) rfl (congrArg (fun b => some (AV.bool b)) hg1758) rfl rfl rfl ?_
  refine O_skip rfl rfl ?_
  refine O_skip rfl rfl ?_
  refine O_skip rfl rfl ?_
  refine oP (.bool false) ?_
  refine oM (.bool false) ?_
  refine O_skip rfl rfl ?_
  refine O_skip rfl rfl ?_
  refine O_skip rfl rfl ?_
  refine O_skip rfl rfl ?_
  refine O_skip rfl rfl ?_
  refine O_skip rfl rfl ?_
  refine oP (.bool false) ?_
  refine oA (.bool false) ?_
  refine O_nil ?_
  refine keep_to [(2, .bool false)] [] rfl rfl ?_
  refine C_ret ?_
  obtain rfl := Option.some.inj h
  exact ⟨_, rfl, rfl, hk1757, rfl⟩
/- freshet/window.Check -/
def s48 (N : Nat) (p0 : T36) : Option Int :=
cond (decide ((p0.Kind : Int) < 1))
 (some 2)
 (cond (decide ((p0.Kind : Int) ≥ 4))
 (some 2)
 (cond ((p0.Kind : Int) == 0)
 (none)
 (cond ((p0.Kind : Int) == 1)
 (Option.bind (s75 N p0) fun x1756 =>
cond (!x1756)
 (some 2)
 (some 0))
 (cond ((p0.Kind : Int) == 2)
 (Option.bind (s78 N p0) fun x1767 =>
cond (!x1767)
 (some 2)
 (some 0))
 (cond ((p0.Kind : Int) == 3)
 (Option.bind (s75 N p0) fun x1778 =>
cond (!x1778)
 (some 2)
 (some 0))
 (none))))))
set_option maxRecDepth 8000 in
set_option maxHeartbeats 4000000 in
theorem w48 (N : Nat) {lo : Nat} {cl : Cl} {H : Hp} (p0 : T36) (hf : Fit lo cl H) {r : Int} (h : s48 N p0 = some r) : CallsR Tryd.prog (Kj lo) 48 [.agg [.int .i64 p0.Kind, .int .i64 p0.Size, .int .i64 p0.Slide]] H (cl) fun x H' cl' => x = .int .i64 r ∧ Kp [] H H' ∧ cl = cl' := by
 refine calls_by Tryd.func48 rfl rfl rfl ?_
 unfold s48 at h
 have hk0 : Kp [] H H := Kp.refl H
 refine C_seq ?_
 refine C_reg ?_
 refine oN (.agg [.int .i64 p0.Kind, .int .i64 p0.Size, .int .i64 p0.Slide]) fun id1715 H1713 hi1716 hH1717 => ?_
 have hb1714 : H1713[id1715]? = some (some ⟨36, [.int .i64 p0.Kind, .int .i64 p0.Size, .int .i64 p0.Slide]⟩) := getL hi1716 hH1717
 have ho1718 := Own.mk2 hf hk0 (Nat.le_of_eq hi1716)
 have hk1719 := kpA hH1717 hk0
 refine oB (.int .i64 0) ?_
 refine O_nil ?_
 refine keep_to [(1, .ptr id1715 0)] [] rfl rfl ?_
 refine C_seq ?_
 refine C_reg ?_
 refine oK [] (w61 N (lo := lo) (hf.kp hk1719)) ?_
 rintro _ H1720 _ ⟨id1723, rfl, ho1724, hb1725, hk1721, rfl⟩
 have hn1726 : id1715 ≠ id1723 := ne_of_lt hb1714 ho1724
 have hb1727 := hk1721.get0 hb1714
 have hk1728 := hk1719.trans hk1721
 have ho1729 : Am.Own lo cl H id1723 := Own.mk2 hf hk1719 ho1724
 refine oZ [.nilfn, .nilfn, .nilfn, .nilfn, .nilfn, .nilfn, .nilfn, .nilfn] fun id1732 H1730 hi1733 hH1734 => ?_
 have hb1731 : H1730[id1732]? = some (some ⟨100, [.nilfn, .nilfn, .nilfn, .nilfn, .nilfn, .nilfn, .nilfn, .nilfn]⟩) := getL hi1733 hH1734
 have ho1735 := Own.mk2 hf hk1728 (Nat.le_of_eq hi1733)
 have hn1736 := ne_of_lt hb1727 (Nat.le_of_eq hi1733)
 have hn1737 := ne_of_lt hb1725 (Nat.le_of_eq hi1733)
 have hb1738 := getA hH1734 hb1727
 have hb1739 := getA hH1734 hb1725
 have hk1740 := kpA hH1734 hk1728
 refine O_store (sl' := []) (cl' := cl) (.agg [.nilfn, .nilfn, .fn 75 [], .fn 77 [.ptr id1723 0], .fn 78 [], .fn 79 [.ptr id1723 0], .fn 75 [], .fn 80 []]) rfl rfl rfl ho1735.lo hb1731 rfl rfl (fun q h => by cases h) (fun i o h => .inr ⟨h, fun e => ho1735.cl i o h e.1⟩) fun H1741 hH1742 => ?_
 have hb1743 : H1741[id1732]? = some (some ⟨100, [.nilfn, .nilfn, .fn 75 [], .fn 77 [.ptr id1723 0], .fn 78 [], .fn 79 [.ptr id1723 0], .fn 75 [], .fn 80 []]⟩) := getW hH1742 hb1731
 have hb1744 := getS hH1742 hn1736 hb1738
 have hb1745 := getS hH1742 hn1737 hb1739
 have hk1746 := kpS hH1742 ho1735.ge hk1740
 refine O_nil ?_
 refine keep_to [(1, .ptr id1715 0), (3, .ptr id1732 0)] [] rfl rfl ?_
 refine C_seq ?_
 refine C_seq ?_
 refine C_draw0 none (m := false) rfl rfl rfl fun b1747 hb1748 => ?_
 refine oP (.ptr id1715 0) ?_
 refine oL (.int .i64 p0.Kind) hb1744 ?_
 refine oP (.bool (decide ((p0.Kind : Int) < 1))) ?_
 rcases Bool.eq_false_or_eq_true (decide ((p0.Kind : Int) < 1)) with hg1749 | hg1749
 ·replace h := ocond_t h hg1749
  refine O_move (sl' := []) (.bool true) rfl (congrArg (fun b => some (AV.bool b)) hg1749) rfl rfl rfl ?_
  refine O_skip rfl rfl ?_
  refine O_skip rfl rfl ?_
  refine O_skip rfl rfl ?_
  refine oP (.bool true) ?_
  refine oM (.bool true) ?_
  refine O_skip rfl rfl ?_
  refine O_skip rfl rfl ?_
  refine O_skip rfl rfl ?_
  refine O_skip rfl rfl ?_
  refine O_skip rfl rfl ?_
  refine O_skip rfl rfl ?_
  refine O_skip rfl rfl ?_
  refine O_skip rfl rfl ?_
  refine oP (.bool true) ?_
  refine O_nil ?_
  refine keep_to [(22, .bool true)] [] rfl rfl ?_
  refine C_true rfl ?_
  refine C_seq ?_
  refine C_reg ?_
  refine oB (.int .i64 2) ?_
  refine O_nil ?_
  refine keep_to [(2, .int .i64 2)] [] rfl rfl ?_
  refine C_ret ?_
  obtain rfl := Option.some.inj h
  exact ⟨_, rfl, rfl, hk1746, rfl⟩
 ·replace h := ocond_f h hg1749
  refine O_move (sl' := []) (.bool false) rfl (congrArg (fun b => some (AV.bool b)) hg1749) rfl rfl rfl ?_
  refine oP (.ptr id1715 0) ?_
  refine oL (.int .i64 p0.Kind) hb1744 ?_
  refine oP (.bool (decide ((p0.Kind : Int) ≥ 4))) ?_
  refine oP (.bool (decide ((p0.Kind : Int) ≥ 4))) ?_
  rcases Bool.eq_false_or_eq_true (decide ((p0.Kind : Int) ≥ 4)) with hg1750 | hg1750
  ·replace h := ocond_t h hg1750
   refine O_move (sl' := []) (.bool true) rfl (congrArg (fun b => some (AV.bool b)) hg1750) rfl rfl rfl ?_
   refine O_skip rfl rfl ?_
   refine O_skip rfl rfl ?_
   refine O_skip rfl rfl ?_
   refine O_skip rfl rfl ?_
   refine O_skip rfl rfl ?_
   refine O_skip rfl rfl ?_
   refine O_skip rfl rfl ?_
   refine O_skip rfl rfl ?_
   refine oP (.bool true) ?_
   refine O_nil ?_
   refine keep_to [(22, .bool true)] [] rfl rfl ?_
   refine C_true rfl ?_
   refine C_seq ?_
   refine C_reg ?_
   refine oB (.int .i64 2) ?_
   refine O_nil ?_
   refine keep_to [(2, .int .i64 2)] [] rfl rfl ?_
   refine C_ret ?_
   obtain rfl := Option.some.inj h
   exact ⟨_, rfl, rfl, hk1746, rfl⟩
  ·replace h := ocond_f h hg1750
   refine O_move (sl' := []) (.bool false) rfl (congrArg (fun b => some (AV.bool b)) hg1750) rfl rfl rfl ?_
   refine oP (.ptr id1715 0) ?_
   refine oL (.int .i64 p0.Kind) hb1744 ?_
   rcases Bool.eq_false_or_eq_true ((p0.Kind : Int) == 0) with hg1751 | hg1751
   ·replace h := ocond_t h hg1751
    refine O_pure (sl' := []) (.ptr id1732 (0 + 0 * 2)) rfl (idxp_lit (k := 0) (off := 0) (sz := 2) rfl rfl (eq_of_beq hg1751) rfl rfl rfl) rfl rfl ?_
    refine oP (.ptr id1732 0) ?_
    refine oL (.nilfn) hb1743 ?_
    refine oL (.agg [.int .i64 p0.Kind, .int .i64 p0.Size, .int .i64 p0.Slide]) hb1744 ?_
    cases h
   replace h := ocond_f h hg1751
   rcases Bool.eq_false_or_eq_true ((p0.Kind : Int) == 1) with hg1752 | hg1752
   ·replace h := ocond_t h hg1752
    refine O_pure (sl' := []) (.ptr id1732 (0 + 1 * 2)) rfl (idxp_lit (k := 1) (off := 0) (sz := 2) rfl rfl (eq_of_beq hg1752) rfl rfl rfl) rfl rfl ?_
    refine oP (.ptr id1732 2) ?_
    refine oL (.fn 75 []) hb1743 ?_
    refine oL (.agg [.int .i64 p0.Kind, .int .i64 p0.Size, .int .i64 p0.Slide]) hb1744 ?_
    obtain ⟨x1756, hx1757, h⟩ := obind_some h
    refine oK [.agg [.int .i64 p0.Kind, .int .i64 p0.Size, .int .i64 p0.Slide]] (w75 N (lo := lo) p0 (hf.kp hk1746) hx1757) ?_
    rintro _ H1753 _ ⟨rfl, hk1754, rfl⟩
    have hb1758 := hk1754.get0 hb1744
    have hb1759 := hk1754.get0 hb1745
    have hb1760 := hk1754.get0 hb1743
    have hk1761 := hk1746.trans hk1754
    refine oP (.bool (!x1756)) ?_
    refine oP (.bool (!x1756)) ?_
    refine O_nil ?_
    refine keep_to [(22, .bool (!x1756))] [] rfl rfl ?_
    refine C_cond (!x1756) rfl (fun hc1762 => ?_) (fun hc1762 => ?_)
    ·replace h := ocond_t h hc1762
     refine C_seq ?_
     refine C_reg ?_
     refine oB (.int .i64 2) ?_
     refine O_nil ?_
     refine keep_to [(2, .int .i64 2)] [] rfl rfl ?_
     refine C_ret ?_
     obtain rfl := Option.some.inj h
     exact ⟨_, rfl, rfl, hk1761, rfl⟩
    ·replace h := ocond_f h hc1762
     refine C_skip ?_
     refine C_seq ?_
     refine C_reg ?_
     refine oB (.int .i64 0) ?_
     refine O_nil ?_
     refine keep_to [(2, .int .i64 0)] [] rfl rfl ?_
     refine C_ret ?_
     obtain rfl := Option.some.inj h
     exact ⟨_, rfl, rfl, hk1761, rfl⟩
   replace h := ocond_f h hg1752
   rcases Bool.eq_false_or_eq_true ((p0.Kind : Int) == 2) with hg1763 | hg1763
   ·replace h := ocond_t h hg1763
    refine O_pure (sl' := []) (.ptr id1732 (0 + 2 * 2)) rfl (idxp_lit (k := 2) (off := 0) (sz := 2) rfl rfl (eq_of_beq hg1763) rfl rfl rfl) rfl rfl ?_
    refine oP (.ptr id1732 4) ?_
    refine oL (.fn 78 []) hb1743 ?_
    refine oL (.agg [.int .i64 p0.Kind, .int .i64 p0.Size, .int .i64 p0.Slide]) hb1744 ?_
    obtain ⟨x1767, hx1768, h⟩ := obind_some h
    refine oK [.agg [.int .i64 p0.Kind, .int .i64 p0.Size, .int .i64 p0.Slide]] (w78 N (lo := lo) p0 (hf.kp hk1746) hx1768) ?_
    rintro _ H1764 _ ⟨rfl, hk1765, rfl⟩
    have hb1769 := hk1765.get0 hb1744
    have hb1770 := hk1765.get0 hb1745
    have hb1771 := hk1765.get0 hb1743
    have hk1772 := hk1746.trans hk1765
    refine oP (.bool (!x1767)) ?_
    refine oP (.bool (!x1767)) ?_
    refine O_nil ?_
    refine keep_to [(22, .bool (!x1767))] [] rfl rfl ?_
    refine C_cond (!x1767) rfl (fun hc1773 => ?_) (fun hc1773 => ?_)
    ·replace h := ocond_t h hc1773
     refine C_seq ?_
     refine C_reg ?_
     refine oB (.int .i64 2) ?_
     refine O_nil ?_
     refine keep_to [(2, .int .i64 2)] [] rfl rfl ?_
     refine C_ret ?_
     obtain rfl := Option.some.inj h
     exact ⟨_, rfl, rfl, hk1772, rfl⟩
    ·replace h := ocond_f h hc1773
     refine C_skip ?_
     refine C_seq ?_
     refine C_reg ?_
     refine oB (.int .i64 0) ?_
     refine O_nil ?_
     refine keep_to [(2, .int .i64 0)] [] rfl rfl ?_
     refine C_ret ?_
     obtain rfl := Option.some.inj h
     exact ⟨_, rfl, rfl, hk1772, rfl⟩
   replace h := ocond_f h hg1763
   rcases Bool.eq_false_or_eq_true ((p0.Kind : Int) == 3) with hg1774 | hg1774
   ·replace h := ocond_t h hg1774
    refine O_pure (sl' := []) (.ptr id1732 (0 + 3 * 2)) rfl (idxp_lit (k := 3) (off := 0) (sz := 2) rfl rfl (eq_of_beq hg1774) rfl rfl rfl) rfl rfl ?_
    refine oP (.ptr id1732 6) ?_
    refine oL (.fn 75 []) hb1743 ?_
    refine oL (.agg [.int .i64 p0.Kind, .int .i64 p0.Size, .int .i64 p0.Slide]) hb1744 ?_
    obtain ⟨x1778, hx1779, h⟩ := obind_some h
    refine oK [.agg [.int .i64 p0.Kind, .int .i64 p0.Size, .int .i64 p0.Slide]] (w75 N (lo := lo) p0 (hf.kp hk1746) hx1779) ?_
    rintro _ H1775 _ ⟨rfl, hk1776, rfl⟩
    have hb1780 := hk1776.get0 hb1744
    have hb1781 := hk1776.get0 hb1745
    have hb1782 := hk1776.get0 hb1743
    have hk1783 := hk1746.trans hk1776
    refine oP (.bool (!x1778)) ?_
    refine oP (.bool (!x1778)) ?_
    refine O_nil ?_
    refine keep_to [(22, .bool (!x1778))] [] rfl rfl ?_
    refine C_cond (!x1778) rfl (fun hc1784 => ?_) (fun hc1784 => ?_)
    ·replace h := ocond_t h hc1784
     refine C_seq ?_
     refine C_reg ?_
     refine oB (.int .i64 2) ?_
     refine O_nil ?_
     refine keep_to [(2, .int .i64 2)] [] rfl rfl ?_
     refine C_ret ?_
     obtain rfl := Option.some.inj h
     exact ⟨_, rfl, rfl, hk1783, rfl⟩
    ·replace h := ocond_f h hc1784
     refine C_skip ?_
     refine C_seq ?_
     refine C_reg ?_
     refine oB (.int .i64 0) ?_
     refine O_nil ?_
     refine keep_to [(2, .int .i64 0)] [] rfl rfl ?_
     refine C_ret ?_
     obtain rfl := Option.some.inj h
     exact ⟨_, rfl, rfl, hk1783, rfl⟩
   replace h := ocond_f h hg1774
   cases h
/- freshet/job.may -/
def s31 (N : Nat) (p0 : T38) : Option Bool :=
Option.bind (s47 N p0.Name) fun x1819 =>
cond (x1819)
 (cond (decide ((p0.Agg : Int) ≥ 1))
 (cond (decide ((p0.Agg : Int) ≤ 8))
 (Option.bind (s48 N (T36.mk p0.Windows_Kind p0.Windows_Size p0.Windows_Slide)) fun x1829 =>
some ((x1829 : Int) == 0))
 (some false))
 (some false))
 (some false)
set_option maxRecDepth 8000 in
set_option maxHeartbeats 4000000 in
theorem w31 (N : Nat) {lo : Nat} {cl : Cl} {H : Hp} (p0 : T38) (hf : Fit lo cl H) {r : Bool} (h : s31 N p0 = some r) : CallsR Tryd.prog (Kj lo) 31 [.agg [.str p0.Name, .int .i64 p0.Agg, .int .i64 p0.Windows_Kind, .int .i64 p0.Windows_Size, .int .i64 p0.Windows_Slide]] H (cl) fun x H' cl' => x = .bool r ∧ Kp [] H H' ∧ cl = cl' := by
 refine calls_by Tryd.func31 rfl rfl rfl ?_
 unfold s31 at h
 have hk0 : Kp [] H H := Kp.refl H
 refine C_seq ?_
 refine C_reg ?_
 refine oN (.agg [.str p0.Name, .int .i64 p0.Agg, .int .i64 p0.Windows_Kind, .int .i64 p0.Windows_Size, .int .i64 p0.Windows_Slide]) fun id1811 H1809 hi1812 hH1813 => ?_
 have hb1810 : H1809[id1811]? = some (some ⟨38, [.str p0.Name, .int .i64 p0.Agg, .int .i64 p0.Windows_Kind, .int .i64 p0.Windows_Size, .int .i64 p0.Windows_Slide]⟩) := getL hi1812 hH1813
 have ho1814 := Own.mk2 hf hk0 (Nat.le_of_eq hi1812)
 have hk1815 := kpA hH1813 hk0
 refine oB (.bool false) ?_
 refine O_nil ?_
 refine keep_to [(1, .ptr id1811 0)] [] rfl rfl ?_
 refine C_seq ?_
 refine C_reg ?_
 refine oP (.ptr id1811 0) ?_
 refine oL (.str p0.Name) hb1810 ?_
 obtain ⟨x1819, hx1820, h⟩ := obind_some h
 refine oK [.str p0.Name] (w47 N (lo := lo) p0.Name (hf.kp hk1815) hx1820) ?_
 rintro _ H1816 _ ⟨rfl, hk1817, rfl⟩
 have hb1821 := hk1817.get0 hb1810
 have hk1822 := hk1815.trans hk1817
 rcases Bool.eq_false_or_eq_true (x1819) with hg1823 | hg1823
 ·replace h := ocond_t h hg1823
  refine O_move (sl' := []) (.bool true) rfl (congrArg (fun b => some (AV.bool b)) hg1823) rfl rfl rfl ?_
  refine oP (.ptr id1811 1) ?_
  refine oL (.int .i64 p0.Agg) hb1821 ?_
  refine oP (.bool (decide ((p0.Agg : Int) ≥ 1))) ?_
  refine oP (.bool (decide ((p0.Agg : Int) ≥ 1))) ?_
  rcases Bool.eq_false_or_eq_true (decide ((p0.Agg : Int) ≥ 1)) with hg1824 | hg1824
  ·replace h := ocond_t h hg1824
   refine O_move (sl' := []) (.bool true) rfl (congrArg (fun b => some (AV.bool b)) hg1824) rfl rfl rfl ?_
   refine oP (.ptr id1811 1) ?_
   refine oL (.int .i64 p0.Agg) hb1821 ?_
   refine oP (.bool (decide ((p0.Agg : Int) ≤ 8))) ?_
   refine oP (.bool (decide ((p0.Agg : Int) ≤ 8))) ?_
   rcases Bool.eq_false_or_eq_true (decide ((p0.Agg : Int) ≤ 8)) with hg1825 | hg1825
   ·replace h := ocond_t h hg1825
    refine O_move (sl' := []) (.bool true) rfl (congrArg (fun b => some (AV.bool b)) hg1825) rfl rfl rfl ?_
    refine oP (.ptr id1811 2) ?_
    refine oL (.agg [.int .i64 p0.Windows_Kind, .int .i64 p0.Windows_Size, .int .i64 p0.Windows_Slide]) hb1821 ?_
    obtain ⟨x1829, hx1830, h⟩ := obind_some h
    refine oK [.agg [.int .i64 p0.Windows_Kind, .int .i64 p0.Windows_Size, .int .i64 p0.Windows_Slide]] (w48 N (lo := lo) (T36.mk p0.Windows_Kind p0.Windows_Size p0.Windows_Slide) (hf.kp hk1822) hx1830) ?_
    rintro _ H1826 _ ⟨rfl, hk1827, rfl⟩
    have hb1831 := hk1827.get0 hb1821
    have hk1832 := hk1822.trans hk1827
    refine oP (.bool ((x1829 : Int) == 0)) ?_
    refine oP (.bool ((x1829 : Int) == 0)) ?_
    refine oA (.bool ((x1829 : Int) == 0)) ?_
    refine O_nil ?_
    refine keep_to [(2, .bool ((x1829 : Int) == 0))] [] rfl rfl ?_
    refine C_ret ?_
    obtain rfl := Option.some.inj h
    exact ⟨_, rfl, rfl, hk1832, rfl⟩
   ·replace h := ocond_f h hg1825
    refine O_move (sl' := []) (.bool false) rfl (congrArg (fun b => some (AV.bool b)) hg1825) rfl rfl rfl ?_
    refine O_skip rfl rfl ?_
    refine O_skip rfl rfl ?_
    refine O_skip rfl rfl ?_
    refine O_skip rfl rfl ?_
    refine oP (.bool false) ?_
    refine oA (.bool false) ?_
    refine O_nil ?_
    refine keep_to [(2, .bool false)] [] rfl rfl ?_
    refine C_ret ?_
    obtain rfl := Option.some.inj h
    exact ⟨_, rfl, rfl, hk1822, rfl⟩
  ·replace h := ocond_f h hg1824
   refine O_move (sl' := []) (.bool false) rfl (congrArg (fun b => some (AV.bool b)) hg1824) rfl rfl rfl ?_
   refine O_skip rfl rfl ?_
   refine O_skip rfl rfl ?_
   refine O_skip rfl rfl ?_
   refine oP (.bool false) ?_
   refine oM (.bool false) ?_
   refine O_skip rfl rfl ?_
   refine O_skip rfl rfl ?_
   refine O_skip rfl rfl ?_
   refine O_skip rfl rfl ?_
   refine oP (.bool false) ?_
   refine oA (.bool false) ?_
   refine O_nil ?_
   refine keep_to [(2, .bool false)] [] rfl rfl ?_
   refine C_ret ?_
   obtain rfl := Option.some.inj h
   exact ⟨_, rfl, rfl, hk1822, rfl⟩
 ·replace h := ocond_f h hg1823
  refine O_move (sl' := []) (.bool false) rfl (congrArg (fun b => some (AV.bool b)) hg1823) rfl rfl rfl ?_
  refine O_skip rfl rfl ?_
  refine O_skip rfl rfl ?_
  refine O_skip rfl rfl ?_
  refine oP (.bool false) ?_
  refine oM (.bool false) ?_
  refine O_skip rfl rfl ?_
  refine O_skip rfl rfl ?_
  refine O_skip rfl rfl ?_
  refine oP (.bool false) ?_
  refine oM (.bool false) ?_
  refine O_skip rfl rfl ?_
  refine O_skip rfl rfl ?_
  refine O_skip rfl rfl ?_
  refine O_skip rfl rfl ?_
  refine oP (.bool false) ?_
  refine oA (.bool false) ?_
  refine O_nil ?_
  refine keep_to [(2, .bool false)] [] rfl rfl ?_
  refine C_ret ?_
  obtain rfl := Option.some.inj h
  exact ⟨_, rfl, rfl, hk1822, rfl⟩
/- freshet/job.numbered -/
def s40 (N : Nat) (p0 : Bs) : Option (Int × Bool) :=
Option.bind (parseS p0 10 64) fun x1850 =>
cond (x1850.2)
 (cond (decide ((x1850.1 : Int) ≤ 1099511627776))
 (Option.bind (fmtUS x1850.1 10) fun x1858 =>
some ((IntKind.wrap .i64 x1850.1), ((x1858 : Bs) == p0)))
 (some ((IntKind.wrap .i64 x1850.1), false)))
 (some ((IntKind.wrap .i64 x1850.1), false))
set_option maxRecDepth 8000 in
set_option maxHeartbeats 4000000 in
theorem w40 (N : Nat) {lo : Nat} {cl : Cl} {H : Hp} (p0 : Bs) (hf : Fit lo cl H) {r : (Int × Bool)} (h : s40 N p0 = some r) : CallsR Tryd.prog (Kj lo) 40 [.str p0] H (cl) fun x H' cl' => x = .tup [.int .i64 r.1, .bool r.2] ∧ Kp [] H H' ∧ cl = cl' := by
 refine calls_by Tryd.func40 rfl rfl rfl ?_
 unfold s40 at h
 have hk0 : Kp [] H H := Kp.refl H
 refine C_seq ?_
 refine C_reg ?_
 refine oB (.int .i64 0) ?_
 refine oB (.bool false) ?_
 refine O_nil ?_
 refine keep_to [(0, .str p0)] [] rfl rfl ?_
 refine C_seq ?_
 refine C_reg ?_
 refine oM (.str p0) ?_
 obtain ⟨x1850, hx1851, h⟩ := obind_some h
 refine oK [.str p0, .int .i64 10, .int .i64 64] (wParse (lo := lo) p0 10 64 hx1851) ?_
 rintro _ H1847 _ ⟨rfl, hk1848, rfl⟩
 have hk1852 := hk0.trans hk1848
 refine oM (.tup [.int .u64 x1850.1, cond x1850.2 .nili (.iface 120 .undef)]) ?_
 refine oP (.int .u64 x1850.1) ?_
 refine oP (cond x1850.2 .nili (.iface 120 .undef)) ?_
 refine oA (.int .u64 x1850.1) ?_
 refine oA (cond x1850.2 .nili (.iface 120 .undef)) ?_
 refine O_nil ?_
 refine keep_to [(0, .str p0), (4, .int .u64 x1850.1), (5, cond x1850.2 .nili (.iface 120 .undef))] [] rfl rfl ?_
 refine C_seq ?_
 refine C_reg ?_
 refine oM (.int .u64 x1850.1) ?_
 refine oP (.int .i64 (IntKind.wrap .i64 x1850.1)) ?_
 refine oM (cond x1850.2 .nili (.iface 120 .undef)) ?_
 refine oQ (.bool x1850.2) (eq_nili rfl (.inr ⟨_, rfl⟩)) ?_
 rcases Bool.eq_false_or_eq_true (x1850.2) with hg1853 | hg1853
 ·replace h := ocond_t h hg1853
  refine O_move (sl' := []) (.bool true) rfl (congrArg (fun b => some (AV.bool b)) hg1853) rfl rfl rfl ?_
  refine oM (.int .u64 x1850.1) ?_
  refine oP (.bool (decide ((x1850.1 : Int) ≤ 1099511627776))) ?_
  refine oP (.bool (decide ((x1850.1 : Int) ≤ 1099511627776))) ?_
  rcases Bool.eq_false_or_eq_true (decide ((x1850.1 : Int) ≤ 1099511627776)) with hg1854 | hg1854
  ·replace h := ocond_t h hg1854
   refine O_move (sl' := []) (.bool true) rfl (congrArg (fun b => some (AV.bool b)) hg1854) rfl rfl rfl ?_
   refine oM (.int .u64 x1850.1) ?_
   obtain ⟨x1858, hx1859, h⟩ := obind_some h
   refine oK [.int .u64 x1850.1, .int .i64 10] (wFmtU (lo := lo) x1850.1 10 hx1859) ?_
   rintro _ H1855 _ ⟨rfl, hk1856, rfl⟩
   have hk1860 := hk1852.trans hk1856
   refine oM (.str p0) ?_
   refine oP (.bool ((x1858 : Bs) == p0)) ?_
   refine oP (.bool ((x1858 : Bs) == p0)) ?_
   refine oA (.int .i64 (IntKind.wrap .i64 x1850.1)) ?_
   refine oA (.bool ((x1858 : Bs) == p0)) ?_
   refine O_nil ?_
   refine keep_to [(2, .int .i64 (IntKind.wrap .i64 x1850.1)), (3, .bool ((x1858 : Bs) == p0))] [] rfl rfl ?_
   refine C_ret ?_
   obtain rfl := Option.some.inj h
   exact ⟨_, rfl, rfl, hk1860, rfl⟩
  ·replace h := ocond_f h hg1854
   refine O_move (sl' := []) (.bool false) rfl (congrArg (fun b => some (AV.bool b)) hg1854) rfl rfl rfl ?_
   refine O_skip rfl rfl ?_
   refine O_skip rfl rfl ?_
   refine O_skip rfl rfl ?_
   refine O_skip rfl rfl ?_
   refine oP (.bool false) ?_
   refine oA (.int .i64 (IntKind.wrap .i64 x1850.1)) ?_
   refine oA (.bool false) ?_
   refine O_nil ?_
   refine keep_to [(2, .int .i64 (IntKind.wrap .i64 x1850.1)), (3, .bool false)] [] rfl rfl ?_
   refine C_ret ?_
   obtain rfl := Option.some.inj h
   exact ⟨_, rfl, rfl, hk1852, rfl⟩
 ·replace h := ocond_f h hg1853
  refine O_move (sl' := []) (.bool false) rfl (congrArg (fun b => some (AV.bool b)) hg1853) rfl rfl rfl ?_
  refine O_skip rfl rfl ?_
  refine O_skip rfl rfl ?_
  refine oP (.bool false) ?_
  refine oM (.bool false) ?_
  refine O_skip rfl rfl ?_
  refine O_skip rfl rfl ?_
  refine O_skip rfl rfl ?_
  refine O_skip rfl rfl ?_
  refine oP (.bool false) ?_
  refine oA (.int .i64 (IntKind.wrap .i64 x1850.1)) ?_
  refine oA (.bool false) ?_
  refine O_nil ?_
  refine keep_to [(2, .int .i64 (IntKind.wrap .i64 x1850.1)), (3, .bool false)] [] rfl rfl ?_
  refine C_ret ?_
  obtain rfl := Option.some.inj h
  exact ⟨_, rfl, rfl, hk1852, rfl⟩
end Go.Proofs.YtecdcnacjlcjoaaDoor.Job

/- Job: walks (GI). Printed by a small program. -/
namespace Go.Proofs.YtecdcnacjlcjoaaDoor.Job
open Am
set_option linter.unusedVariables false
set_option linter.unusedSimpArgs false
end Go.Proofs.YtecdcnacjlcjoaaDoor.Job

/- Job: walks (GJ). Printed by a small program. -/
namespace Go.Proofs.YtecdcnacjlcjoaaDoor.Job
open Am
set_option linter.unusedVariables false
set_option linter.unusedSimpArgs false
end Go.Proofs.YtecdcnacjlcjoaaDoor.Job

/- Job: walks (GK). Printed by a small program. -/
namespace Go.Proofs.YtecdcnacjlcjoaaDoor.Job
open Am
set_option linter.unusedVariables false
set_option linter.unusedSimpArgs false
set_option maxRecDepth 8000 in
set_option maxHeartbeats 4000000 in
theorem w26 (N : Nat) {lo : Nat} {cl : Cl} {H : Hp} (hf : Fit lo cl H) : CallsR Tryd.prog (Kj lo) 26 [] H (cl) fun x H' cl' => x = .tup [.agg [.str [], .str [99, 111, 117, 110, 116], .str [115, 117, 109], .str [109, 105, 110], .str [109, 97, 120], .str [108, 97, 115, 116], .str [108, 105, 115, 116], .str [100, 105, 115, 116, 105, 110, 99, 116], .str [115, 112, 105, 110]], .agg [.str [], .str [116, 117, 109, 98, 108, 105, 110, 103], .str [115, 108, 105, 100, 105, 110, 103], .str [115, 101, 115, 115, 105, 111, 110]]] ∧ Kp [] H H' ∧ cl = cl' := by
 refine calls_by Tryd.func26 rfl rfl rfl ?_
 have hk0 : Kp [] H H := Kp.refl H
 refine C_seq ?_
 refine C_reg ?_
 refine oZ [.str [], .str [], .str [], .str [], .str [], .str [], .str [], .str [], .str []] fun id2073 H2071 hi2074 hH2075 => ?_
 have hb2072 : H2071[id2073]? = some (some ⟨55, [.str [], .str [], .str [], .str [], .str [], .str [], .str [], .str [], .str []]⟩) := getL hi2074 hH2075
 have ho2076 := Own.mk2 hf hk0 (Nat.le_of_eq hi2074)
 have hk2077 := kpA hH2075 hk0
 refine oZ [.str [], .str [], .str [], .str []] fun id2080 H2078 hi2081 hH2082 => ?_
 have hb2079 : H2078[id2080]? = some (some ⟨56, [.str [], .str [], .str [], .str []]⟩) := getL hi2081 hH2082
 have ho2083 := Own.mk2 hf hk2077 (Nat.le_of_eq hi2081)
 have hn2084 := ne_of_lt hb2072 (Nat.le_of_eq hi2081)
 have hb2085 := getA hH2082 hb2072
 have hk2086 := kpA hH2082 hk2077
 refine O_nil ?_
 refine keep_to [(0, .ptr id2073 0), (1, .ptr id2080 0)] [] rfl rfl ?_
 refine C_seq ?_
 refine C_reg ?_
 refine oP (.agg [.str [], .str [99, 111, 117, 110, 116], .str [115, 117, 109], .str [109, 105, 110], .str [109, 97, 120], .str [108, 97, 115, 116], .str [108, 105, 115, 116], .str [100, 105, 115, 116, 105, 110, 99, 116], .str [115, 112, 105, 110]]) ?_
 refine oP (.agg [.str [], .str [116, 117, 109, 98, 108, 105, 110, 103], .str [115, 108, 105, 100, 105, 110, 103], .str [115, 101, 115, 115, 105, 111, 110]]) ?_
 refine O_store (sl' := []) (cl' := cl) (.agg [.str [], .str [99, 111, 117, 110, 116], .str [115, 117, 109], .str [109, 105, 110], .str [109, 97, 120], .str [108, 97, 115, 116], .str [108, 105, 115, 116], .str [100, 105, 115, 116, 105, 110, 99, 116], .str [115, 112, 105, 110]]) rfl rfl rfl ho2076.lo hb2085 rfl rfl (fun q h => by cases h) (fun i o h => .inr ⟨h, fun e => ho2076.cl i o h e.1⟩) fun H2087 hH2088 => ?_
 have hb2089 : H2087[id2073]? = some (some ⟨55, [.str [], .str [99, 111, 117, 110, 116], .str [115, 117, 109], .str [109, 105, 110], .str [109, 97, 120], .str [108, 97, 115, 116], .str [108, 105, 115, 116], .str [100, 105, 115, 116, 105, 110, 99, 116], .str [115, 112, 105, 110]]⟩) := getW hH2088 hb2085
 have hb2090 := getS hH2088 (fun e => hn2084 e.symm) hb2079
 have hk2091 := kpS hH2088 ho2076.ge hk2086
 refine O_store (sl' := []) (cl' := cl) (.agg [.str [], .str [116, 117, 109, 98, 108, 105, 110, 103], .str [115, 108, 105, 100, 105, 110, 103], .str [115, 101, 115, 115, 105, 111, 110]]) rfl rfl rfl ho2083.lo hb2090 rfl rfl (fun q h => by cases h) (fun i o h => .inr ⟨h, fun e => ho2083.cl i o h e.1⟩) fun H2092 hH2093 => ?_
 have hb2094 : H2092[id2080]? = some (some ⟨56, [.str [], .str [116, 117, 109, 98, 108, 105, 110, 103], .str [115, 108, 105, 100, 105, 110, 103], .str [115, 101, 115, 115, 105, 111, 110]]⟩) := getW hH2093 hb2090
 have hb2095 := getS hH2093 hn2084 hb2089
 have hk2096 := kpS hH2093 ho2083.ge hk2091
 refine O_nil ?_
 refine keep_to [(0, .ptr id2073 0), (1, .ptr id2080 0)] [] rfl rfl ?_
 refine C_ret ?_
 exact ⟨_, (ress_two (resM_cons (resE_cell rfl hb2095 rfl) (resM_cons (resE_cell rfl hb2094 rfl) resM_nil))), rfl, hk2096, rfl⟩
end Go.Proofs.YtecdcnacjlcjoaaDoor.Job

/- Job: walks (GE). Printed by a small program. -/
namespace Go.Proofs.YtecdcnacjlcjoaaDoor.Job
open Am
set_option linter.unusedVariables false
set_option linter.unusedSimpArgs false
end Go.Proofs.YtecdcnacjlcjoaaDoor.Job

/- Job: walks (GL7). Printed by a small program. -/
namespace Go.Proofs.YtecdcnacjlcjoaaDoor.Job
open Am
set_option linter.unusedVariables false
set_option linter.unusedSimpArgs false
end Go.Proofs.YtecdcnacjlcjoaaDoor.Job
