/- Job: walks (GD). Printed by a small program. -/
import Derived.Test.YtecdcnacjlcjoaaDoorM5
import Derived.Test.YtecdcnacjlcjoaaDoorM6
/- Job: walks (GD). Printed by a small program. -/
namespace Go.Proofs.YtecdcnacjlcjoaaDoor.Job
open Am
set_option linter.unusedVariables false
set_option linter.unusedSimpArgs false
set_option linter.unusedVariables false in
def s47_l0 (N : Nat) (p0 : Bs) (k1571 : Unit → Option Bool) : Nat → Int → Option Bool
  | 0, _ => none
  | n + 1, v7 => (
cond (decide ((v7 : Int) < ((List.length p0 : Nat) : Int)))
 (Option.bind (strAt p0 v7) fun c1576 =>
cond (decide ((c1576 : Int) ≥ 97))
 (cond (decide ((c1576 : Int) ≤ 122))
 (s47_l0 N p0 k1571 n (IntKind.wrap .i64 (v7 + 1)))
 (cond (decide ((v7 : Int) > 0))
 (cond (decide ((c1576 : Int) ≥ 48))
 (cond (!(decide ((c1576 : Int) ≤ 57)))
 (some false)
 (s47_l0 N p0 k1571 n (IntKind.wrap .i64 (v7 + 1))))
 (some false))
 (some false)))
 (cond (decide ((v7 : Int) > 0))
 (cond (decide ((c1576 : Int) ≥ 48))
 (cond (!(decide ((c1576 : Int) ≤ 57)))
 (some false)
 (s47_l0 N p0 k1571 n (IntKind.wrap .i64 (v7 + 1))))
 (some false))
 (some false)))
 (k1571 ()))
/- freshet/job.named -/
def s47 (N : Nat) (p0 : Bs) : Option Bool :=
jn (fun (e1570 : Unit) =>
cond (decide ((((List.length p0 : Nat) : Int) : Int) ≥ 1))
 (some (decide ((((List.length p0 : Nat) : Int) : Int) ≤ 16)))
 (some false)) fun k1571 => s47_l0 N p0 k1571 N 0
set_option maxRecDepth 8000 in
set_option maxHeartbeats 4000000 in
theorem w47 (N : Nat) {lo : Nat} {cl : Cl} {H : Hp} (p0 : Bs) (hf : Fit lo cl H) {r : Bool} (h : s47 N p0 = some r) : CallsR Tryd.prog (Kj lo) 47 [.str p0] H (cl) fun x H' cl' => x = .bool r ∧ Kp [] H H' ∧ cl = cl' := by
 refine calls_by Tryd.func47 rfl rfl rfl ?_
 unfold s47 at h
 have hk0 : Kp [] H H := Kp.refl H
 refine C_seq ?_
 refine C_reg ?_
 refine oB (.bool false) ?_
 refine O_nil ?_
 refine keep_to [(0, .str p0)] [] rfl rfl ?_
 refine C_seq ?_
 refine C_seq ?_
 refine C_reg ?_
 refine oM (.str p0) ?_
 refine oP (.int .i64 ((List.length p0 : Nat) : Int)) ?_
 refine oC (.int .i64 0) ?_
 refine O_nil ?_
 refine keep_to [(0, .str p0), (6, .int .i64 ((List.length p0 : Nat) : Int)), (7, .int .i64 0)] [] rfl rfl ?_
 refine C_block ?_
 obtain ⟨k1571, hk1572, h⟩ := jn_some h
 refine C_loopE [0, 6, 7] (fun n env' H' sl' cl' => ∃ (v7 : Int), env' = [(0, .str p0), (6, .int .i64 ((List.length p0 : Nat) : Int)), (7, .int .i64 v7)] ∧ sl' = [] ∧ cl = cl' ∧ Kp [] H H' ∧ s47_l0 N p0 k1571 n v7 = some r) 0 [0] (fun env' H' sl' cl' => ∃ (e1570 : Unit), env' = [(0, .str p0)] ∧ sl' = [] ∧ cl = cl' ∧ Kp [] H H' ∧ k1571 e1570 = some r) N ⟨0, rfl, rfl, rfl, hk0, h⟩ ?_ ?_
 ·rintro n _ H1573 _ _ ⟨v7, rfl, rfl, rfl, hk1574, h⟩
  cases n with
  | zero => rw [s47_l0] at h; cases h
  | succ n =>
  rw [s47_l0] at h
  refine C_seq ?_
  refine C_reg ?_
  refine oP (.bool (decide ((v7 : Int) < ((List.length p0 : Nat) : Int)))) ?_
  refine O_nil ?_
  refine keep_to [(0, .str p0), (6, .int .i64 ((List.length p0 : Nat) : Int)), (7, .int .i64 v7), (8, .bool (decide ((v7 : Int) < ((List.length p0 : Nat) : Int))))] [] rfl rfl ?_
  refine C_seq ?_
  refine C_cond (decide ((v7 : Int) < ((List.length p0 : Nat) : Int))) rfl (fun hc1575 => ?_) (fun hc1575 => ?_)
  ·replace h := ocond_t h hc1575
   refine C_skip ?_
   refine C_seq ?_
   refine C_block ?_
   refine C_seq ?_
   refine C_reg ?_
   refine oM (.int .i64 v7) ?_
   refine oA (.int .i64 v7) ?_
   refine O_nil ?_
   refine keep_to [(0, .str p0), (3, .int .i64 v7), (6, .int .i64 ((List.length p0 : Nat) : Int)), (7, .int .i64 v7)] [] rfl rfl ?_
   refine C_seq ?_
   refine C_reg ?_
   refine oM (.str p0) ?_
   refine oM (.int .i64 v7) ?_
   obtain ⟨c1576, hx1577, h⟩ := obind_some h
   refine oQ (.int .u8 c1576) (idx_strI rfl rfl rfl hx1577) ?_
   refine oA (.int .u8 c1576) ?_
   refine O_nil ?_
   refine keep_to [(0, .str p0), (3, .int .i64 v7), (4, .int .u8 c1576), (6, .int .i64 ((List.length p0 : Nat) : Int)), (7, .int .i64 v7)] [] rfl rfl ?_
   refine C_seq ?_
   refine C_reg ?_
   refine oM (.int .u8 c1576) ?_
   refine oP (.bool (decide ((c1576 : Int) ≥ 97))) ?_
   rcases Bool.eq_false_or_eq_true (decide ((c1576 : Int) ≥ 97)) with hg1578 | hg1578
   ·replace h := ocond_t h hg1578
    refine O_move (sl' := []) (.bool true) rfl (congrArg (fun b => some (AV.bool b)) hg1578) rfl rfl rfl ?_
    refine oM (.int .u8 c1576) ?_
    refine oP (.bool (decide ((c1576 : Int) ≤ 122))) ?_
    refine oP (.bool (decide ((c1576 : Int) ≤ 122))) ?_
    rcases Bool.eq_false_or_eq_true (decide ((c1576 : Int) ≤ 122)) with hg1579 | hg1579
    ·replace h := ocond_t h hg1579
     refine O_move (sl' := []) (.bool true) rfl (congrArg (fun b => some (AV.bool b)) hg1579) rfl rfl rfl ?_
     refine O_skip rfl rfl ?_
     refine O_skip rfl rfl ?_
     refine O_skip rfl rfl ?_
     refine O_skip rfl rfl ?_
     refine O_skip rfl rfl ?_
     refine O_skip rfl rfl ?_
     refine O_skip rfl rfl ?_
     refine O_skip rfl rfl ?_
     refine O_skip rfl rfl ?_
     refine O_skip rfl rfl ?_
     refine oP (.bool true) ?_
     refine oP (.bool false) ?_
     refine O_nil ?_
     refine keep_to [(0, .str p0), (6, .int .i64 ((List.length p0 : Nat) : Int)), (7, .int .i64 v7), (31, .bool false)] [] rfl rfl ?_
     refine C_false rfl ?_
     refine C_skip ?_
     refine C_reg ?_
     refine oP (.int .i64 (IntKind.wrap .i64 (v7 + 1))) ?_
     refine oM (.int .i64 (IntKind.wrap .i64 (v7 + 1))) ?_
     refine O_nil ?_
     refine keep_to [(0, .str p0), (6, .int .i64 ((List.length p0 : Nat) : Int)), (7, .int .i64 (IntKind.wrap .i64 (v7 + 1)))] [] rfl rfl ?_
     exact ⟨n, Nat.lt_succ_self n, (IntKind.wrap .i64 (v7 + 1)), rfl, rfl, rfl, hk1574, h⟩
    ·replace h := ocond_f h hg1579
     refine O_move (sl' := []) (.bool false) rfl (congrArg (fun b => some (AV.bool b)) hg1579) rfl rfl rfl ?_
     refine oM (.int .i64 v7) ?_
     refine oP (.bool (decide ((v7 : Int) > 0))) ?_
     rcases Bool.eq_false_or_eq_true (decide ((v7 : Int) > 0)) with hg1580 | hg1580
     ·replace h := ocond_t h hg1580
      refine O_move (sl' := []) (.bool true) rfl (congrArg (fun b => some (AV.bool b)) hg1580) rfl rfl rfl ?_
      refine oM (.int .u8 c1576) ?_
      refine oP (.bool (decide ((c1576 : Int) ≥ 48))) ?_
      refine oP (.bool (decide ((c1576 : Int) ≥ 48))) ?_
      rcases Bool.eq_false_or_eq_true (decide ((c1576 : Int) ≥ 48)) with hg1581 | hg1581
      ·replace h := ocond_t h hg1581
       refine O_move (sl' := []) (.bool true) rfl (congrArg (fun b => some (AV.bool b)) hg1581) rfl rfl rfl ?_
       refine oM (.int .u8 c1576) ?_
       refine oP (.bool (decide ((c1576 : Int) ≤ 57))) ?_
       refine oP (.bool (decide ((c1576 : Int) ≤ 57))) ?_
       refine oP (.bool (decide ((c1576 : Int) ≤ 57))) ?_
       refine oP (.bool (!(decide ((c1576 : Int) ≤ 57)))) ?_
       refine O_nil ?_
       refine keep_to [(0, .str p0), (6, .int .i64 ((List.length p0 : Nat) : Int)), (7, .int .i64 v7), (31, .bool (!(decide ((c1576 : Int) ≤ 57))))] [] rfl rfl ?_
       refine C_cond (!(decide ((c1576 : Int) ≤ 57))) rfl (fun hc1582 => ?_) (fun hc1582 => ?_)
       ·replace h := ocond_t h hc1582
        refine C_seq ?_
        refine C_reg ?_
        refine oB (.bool false) ?_
        refine O_nil ?_
        refine keep_to [(2, .bool false)] [] rfl rfl ?_
        refine C_ret ?_
        obtain rfl := Option.some.inj h
        exact ⟨_, rfl, rfl, hk1574, rfl⟩
       ·replace h := ocond_f h hc1582
        refine C_skip ?_
        refine C_reg ?_
        refine oP (.int .i64 (IntKind.wrap .i64 (v7 + 1))) ?_
        refine oM (.int .i64 (IntKind.wrap .i64 (v7 + 1))) ?_
        refine O_nil ?_
        refine keep_to [(0, .str p0), (6, .int .i64 ((List.length p0 : Nat) : Int)), (7, .int .i64 (IntKind.wrap .i64 (v7 + 1)))] [] rfl rfl ?_
        exact ⟨n, Nat.lt_succ_self n, (IntKind.wrap .i64 (v7 + 1)), rfl, rfl, rfl, hk1574, h⟩
      ·replace h := ocond_f h hg1581
       refine O_move (sl' := []) (.bool false) rfl (congrArg (fun b => some (AV.bool b)) hg1581) rfl rfl rfl ?_
       refine O_skip rfl rfl ?_
       refine O_skip rfl rfl ?_
       refine oP (.bool false) ?_
       refine oP (.bool false) ?_
       refine oP (.bool true) ?_
       refine O_nil ?_
       refine keep_to [(0, .str p0), (6, .int .i64 ((List.length p0 : Nat) : Int)), (7, .int .i64 v7), (31, .bool true)] [] rfl rfl ?_
       refine C_true rfl ?_
       refine C_seq ?_
       refine C_reg ?_
       refine oB (.bool false) ?_
       refine O_nil ?_
       refine keep_to [(2, .bool false)] [] rfl rfl ?_
       refine C_ret ?_
       obtain rfl := Option.some.inj h
       exact ⟨_, rfl, rfl, hk1574, rfl⟩
     ·replace h := ocond_f h hg1580
      refine O_move (sl' := []) (.bool false) rfl (congrArg (fun b => some (AV.bool b)) hg1580) rfl rfl rfl ?_
      refine O_skip rfl rfl ?_
      refine O_skip rfl rfl ?_
      refine oP (.bool false) ?_
      refine oM (.bool false) ?_
      refine O_skip rfl rfl ?_
      refine O_skip rfl rfl ?_
      refine oP (.bool false) ?_
      refine oP (.bool false) ?_
      refine oP (.bool true) ?_
      refine O_nil ?_
      refine keep_to [(0, .str p0), (6, .int .i64 ((List.length p0 : Nat) : Int)), (7, .int .i64 v7), (31, .bool true)] [] rfl rfl ?_
      refine C_true rfl ?_
      refine C_seq ?_
      refine C_reg ?_
      refine oB (.bool false) ?_
      refine O_nil ?_
      refine keep_to [(2, .bool false)] [] rfl rfl ?_
      refine C_ret ?_
      obtain rfl := Option.some.inj h
      exact ⟨_, rfl, rfl, hk1574, rfl⟩
   ·replace h := ocond_f h hg1578
    refine O_move (sl' := []) (.bool false) rfl (congrArg (fun b => some (AV.bool b)) hg1578) rfl rfl rfl ?_
    refine O_skip rfl rfl ?_
    refine O_skip rfl rfl ?_
    refine oP (.bool false) ?_
    refine oM (.bool false) ?_
    refine oM (.int .i64 v7) ?_
    refine oP (.bool (decide ((v7 : Int) > 0))) ?_
    rcases Bool.eq_false_or_eq_true (decide ((v7 : Int) > 0)) with hg1583 | hg1583
    ·replace h := ocond_t h hg1583
     refine O_move (sl' := []) (.bool true) rfl (congrArg (fun b => some (AV.bool b)) hg1583) rfl rfl rfl ?_
     refine oM (.int .u8 c1576) ?_
     refine oP (.bool (decide ((c1576 : Int) ≥ 48))) ?_
     refine oP (.bool (decide ((c1576 : Int) ≥ 48))) ?_
     rcases Bool.eq_false_or_eq_true (decide ((c1576 : Int) ≥ 48)) with hg1584 | hg1584
     ·replace h := ocond_t h hg1584
      refine O_move (sl' := []) (.bool true) rfl (congrArg (fun b => some (AV.bool b)) hg1584) rfl rfl rfl ?_
      refine oM (.int .u8 c1576) ?_
      refine oP (.bool (decide ((c1576 : Int) ≤ 57))) ?_
      refine oP (.bool (decide ((c1576 : Int) ≤ 57))) ?_
      refine oP (.bool (decide ((c1576 : Int) ≤ 57))) ?_
      refine oP (.bool (!(decide ((c1576 : Int) ≤ 57)))) ?_
      refine O_nil ?_
      refine keep_to [(0, .str p0), (6, .int .i64 ((List.length p0 : Nat) : Int)), (7, .int .i64 v7), (31, .bool (!(decide ((c1576 : Int) ≤ 57))))] [] rfl rfl ?_
      refine C_cond (!(decide ((c1576 : Int) ≤ 57))) rfl (fun hc1585 => ?_) (fun hc1585 => ?_)
      ·replace h := ocond_t h hc1585
       refine C_seq ?_
       refine C_reg ?_
       refine oB (.bool false) ?_
       refine O_nil ?_
       refine keep_to [(2, .bool false)] [] rfl rfl ?_
       refine C_ret ?_
       obtain rfl := Option.some.inj h
       exact ⟨_, rfl, rfl, hk1574, rfl⟩
      ·replace h := ocond_f h hc1585
       refine C_skip ?_
       refine C_reg ?_
       refine oP (.int .i64 (IntKind.wrap .i64 (v7 + 1))) ?_
       refine oM (.int .i64 (IntKind.wrap .i64 (v7 + 1))) ?_
       refine O_nil ?_
       refine keep_to [(0, .str p0), (6, .int .i64 ((List.length p0 : Nat) : Int)), (7, .int .i64 (IntKind.wrap .i64 (v7 + 1)))] [] rfl rfl ?_
       exact ⟨n, Nat.lt_succ_self n, (IntKind.wrap .i64 (v7 + 1)), rfl, rfl, rfl, hk1574, h⟩
     ·replace h := ocond_f h hg1584
      refine O_move (sl' := []) (.bool false) rfl (congrArg (fun b => some (AV.bool b)) hg1584) rfl rfl rfl ?_
      refine O_skip rfl rfl ?_
      refine O_skip rfl rfl ?_
      refine oP (.bool false) ?_
      refine oP (.bool false) ?_
      refine oP (.bool true) ?_
      refine O_nil ?_
      refine keep_to [(0, .str p0), (6, .int .i64 ((List.length p0 : Nat) : Int)), (7, .int .i64 v7), (31, .bool true)] [] rfl rfl ?_
      refine C_true rfl ?_
      refine C_seq ?_
      refine C_reg ?_
      refine oB (.bool false) ?_
      refine O_nil ?_
      refine keep_to [(2, .bool false)] [] rfl rfl ?_
      refine C_ret ?_
      obtain rfl := Option.some.inj h
      exact ⟨_, rfl, rfl, hk1574, rfl⟩
    ·replace h := ocond_f h hg1583
     refine O_move (sl' := []) (.bool false) rfl (congrArg (fun b => some (AV.bool b)) hg1583) rfl rfl rfl ?_
     refine O_skip rfl rfl ?_
     refine O_skip rfl rfl ?_
     refine oP (.bool false) ?_
     refine oM (.bool false) ?_
     refine O_skip rfl rfl ?_
     refine O_skip rfl rfl ?_
     refine oP (.bool false) ?_
     refine oP (.bool false) ?_
     refine oP (.bool true) ?_
     refine O_nil ?_
     refine keep_to [(0, .str p0), (6, .int .i64 ((List.length p0 : Nat) : Int)), (7, .int .i64 v7), (31, .bool true)] [] rfl rfl ?_
     refine C_true rfl ?_
     refine C_seq ?_
     refine C_reg ?_
     refine oB (.bool false) ?_
     refine O_nil ?_
     refine keep_to [(2, .bool false)] [] rfl rfl ?_
     refine C_ret ?_
     obtain rfl := Option.some.inj h
     exact ⟨_, rfl, rfl, hk1574, rfl⟩
  ·replace h := ocond_f h hc1575
   refine C_exit ?_
   exact ⟨_, rfl, rfl, rfl, hk1574, h⟩
 ·rintro _ H1586 _ _ ⟨e1570, rfl, rfl, rfl, hk1587, h⟩
  subst hk1572
  refine C_seq ?_
  refine C_reg ?_
  refine oM (.str p0) ?_
  refine oP (.int .i64 ((List.length p0 : Nat) : Int)) ?_
  refine oP (.bool (decide ((((List.length p0 : Nat) : Int) : Int) ≥ 1))) ?_
  rcases Bool.eq_false_or_eq_true (decide ((((List.length p0 : Nat) : Int) : Int) ≥ 1)) with hg1588 | hg1588
  ·replace h := ocond_t h hg1588
   refine O_move (sl' := []) (.bool true) rfl (congrArg (fun b => some (AV.bool b)) hg1588) rfl rfl rfl ?_
   refine oM (.str p0) ?_
   refine oP (.int .i64 ((List.length p0 : Nat) : Int)) ?_
   refine oP (.bool (decide ((((List.length p0 : Nat) : Int) : Int) ≤ 16))) ?_
   refine oP (.bool (decide ((((List.length p0 : Nat) : Int) : Int) ≤ 16))) ?_
   refine oA (.bool (decide ((((List.length p0 : Nat) : Int) : Int) ≤ 16))) ?_
   refine O_nil ?_
   refine keep_to [(2, .bool (decide ((((List.length p0 : Nat) : Int) : Int) ≤ 16)))] [] rfl rfl ?_
   refine C_ret ?_
   obtain rfl := Option.some.inj h
   exact ⟨_, rfl, rfl, hk1587, rfl⟩
  ·replace h := ocond_f h hg1588
   refine O_move (sl' := []) (.bool false) rfl (congrArg (fun b => some (AV.bool b)) hg1588) rfl rfl rfl ?_
   refine O_skip rfl rfl ?_
   refine O_skip rfl rfl ?_
   refine O_skip rfl rfl ?_
   refine oP (.bool false) ?_
   refine oA (.bool false) ?_
   refine O_nil ?_
   refine keep_to [(2, .bool false)] [] rfl rfl ?_
   refine C_ret ?_
   obtain rfl := Option.some.inj h
   exact ⟨_, rfl, rfl, hk1587, rfl⟩
set_option maxRecDepth 8000 in
set_option maxHeartbeats 4000000 in
theorem w61 (N : Nat) {lo : Nat} {cl : Cl} {H : Hp} (hf : Fit lo cl H) : CallsR Tryd.prog (Kj lo) 61 [] H (cl) fun x H' cl' => ∃ ida, x = .agg [.nilfn, .nilfn, .fn 75 [], .fn 77 [.ptr ida 0], .fn 78 [], .fn 79 [.ptr ida 0], .fn 75 [], .fn 80 []] ∧ H.length ≤ ida ∧ H'[ida]? = some (some ⟨113, [.fn 74 []]⟩) ∧ Kp [] H H' ∧ cl = cl' := by
 refine calls_by Tryd.func61 rfl rfl rfl ?_
 have hk0 : Kp [] H H := Kp.refl H
 refine C_seq ?_
 refine C_reg ?_
 refine oZ [.nilfn, .nilfn, .nilfn, .nilfn, .nilfn, .nilfn, .nilfn, .nilfn] fun id1624 H1622 hi1625 hH1626 => ?_
 have hb1623 : H1622[id1624]? = some (some ⟨100, [.nilfn, .nilfn, .nilfn, .nilfn, .nilfn, .nilfn, .nilfn, .nilfn]⟩) := getL hi1625 hH1626
 have ho1627 := Own.mk2 hf hk0 (Nat.le_of_eq hi1625)
 have hk1628 := kpA hH1626 hk0
 refine O_nil ?_
 refine keep_to [(0, .ptr id1624 0)] [] rfl rfl ?_
 refine C_seq ?_
 refine C_reg ?_
 refine oZ [.nilfn] fun id1631 H1629 hi1632 hH1633 => ?_
 have hb1630 : H1629[id1631]? = some (some ⟨113, [.nilfn]⟩) := getL hi1632 hH1633
 have ho1634 := Own.mk2 hf hk1628 (Nat.le_of_eq hi1632)
 have hn1635 := ne_of_lt hb1623 (Nat.le_of_eq hi1632)
 have hb1636 := getA hH1633 hb1623
 have hk1637 := kpA hH1633 hk1628
 refine O_store (sl' := []) (cl' := cl) (.fn 74 []) rfl rfl rfl ho1634.lo hb1630 rfl rfl (fun q h => by cases h) (fun i o h => .inr ⟨h, fun e => ho1634.cl i o h e.1⟩) fun H1638 hH1639 => ?_
 have hb1640 : H1638[id1631]? = some (some ⟨113, [.fn 74 []]⟩) := getW hH1639 hb1630
 have hb1641 := getS hH1639 hn1635 hb1636
 have hk1642 := kpS hH1639 ho1634.ge hk1637
 refine O_nil ?_
 refine keep_to [(0, .ptr id1624 0), (1, .ptr id1631 0)] [] rfl rfl ?_
 refine C_seq ?_
 refine C_reg ?_
 refine oB (.fn 75 []) ?_
 refine O_nil ?_
 refine keep_to [(0, .ptr id1624 0), (1, .ptr id1631 0), (2, .fn 75 [])] [] rfl rfl ?_
 refine C_seq ?_
 refine C_reg ?_
 refine oM (.fn 75 []) ?_
 refine oP (.fn 77 [.ptr id1631 0]) ?_
 refine oP (.agg [.fn 75 [], .fn 77 [.ptr id1631 0]]) ?_
 refine oP (.fn 79 [.ptr id1631 0]) ?_
 refine oP (.agg [.fn 78 [], .fn 79 [.ptr id1631 0]]) ?_
 refine oM (.fn 75 []) ?_
 refine oP (.agg [.fn 75 [], .fn 80 []]) ?_
 refine oP (.agg [.nilfn, .nilfn, .fn 75 [], .fn 77 [.ptr id1631 0], .fn 78 [], .fn 79 [.ptr id1631 0], .fn 75 [], .fn 80 []]) ?_
 refine O_store (sl' := []) (cl' := cl) (.agg [.nilfn, .nilfn, .fn 75 [], .fn 77 [.ptr id1631 0], .fn 78 [], .fn 79 [.ptr id1631 0], .fn 75 [], .fn 80 []]) rfl rfl rfl ho1627.lo hb1641 rfl rfl (fun q h => by cases h) (fun i o h => .inr ⟨h, fun e => ho1627.cl i o h e.1⟩) fun H1643 hH1644 => ?_
 have hb1645 : H1643[id1624]? = some (some ⟨100, [.nilfn, .nilfn, .fn 75 [], .fn 77 [.ptr id1631 0], .fn 78 [], .fn 79 [.ptr id1631 0], .fn 75 [], .fn 80 []]⟩) := getW hH1644 hb1641
 have hb1646 := getS hH1644 (fun e => hn1635 e.symm) hb1640
 have hk1647 := kpS hH1644 ho1627.ge hk1642
 refine O_nil ?_
 refine keep_to [(0, .ptr id1624 0)] [] rfl rfl ?_
 refine C_ret ?_
 exact ⟨_, (ress_one (resE_cell rfl hb1645 rfl)), id1631, rfl, ho1634.ge, hb1646, hk1647, rfl⟩
/- freshet/window.span -/
def s76 (N : Nat) (p0 : Int) : Option Bool :=
cond (decide ((p0 : Int) ≥ 1))
 (some (decide ((p0 : Int) ≤ 1099511627776)))
 (some false)
set_option maxRecDepth 8000 in
set_option maxHeartbeats 4000000 in
theorem w76 (N : Nat) {lo : Nat} {cl : Cl} {H : Hp} (p0 : Int) (hf : Fit lo cl H) {r : Bool} (h : s76 N p0 = some r) : CallsR Tryd.prog (Kj lo) 76 [.int .i64 p0] H (cl) fun x H' cl' => x = .bool r ∧ Kp [] H H' ∧ cl = cl' := by
 refine calls_by Tryd.func76 rfl rfl rfl ?_
 unfold s76 at h
 have hk0 : Kp [] H H := Kp.refl H
 refine C_seq ?_
 refine C_reg ?_
 refine oB (.bool false) ?_
 refine O_nil ?_
 refine keep_to [(0, .int .i64 p0)] [] rfl rfl ?_
 refine C_seq ?_
 refine C_reg ?_
 refine oM (.int .i64 p0) ?_
 refine oP (.bool (decide ((p0 : Int) ≥ 1))) ?_
 rcases Bool.eq_false_or_eq_true (decide ((p0 : Int) ≥ 1)) with hg1689 | hg1689
 ·replace h := ocond_t h hg1689
  refine O_move (sl' := []) (.bool true) rfl (congrArg (fun b => some (AV.bool b)) hg1689) rfl rfl rfl ?_
  refine oM (.int .i64 p0) ?_
  refine oP (.bool (decide ((p0 : Int) ≤ 1099511627776))) ?_
  refine oP (.bool (decide ((p0 : Int) ≤ 1099511627776))) ?_
  refine oA (.bool (decide ((p0 : Int) ≤ 1099511627776))) ?_
  refine O_nil ?_
  refine keep_to [(2, .bool (decide ((p0 : Int) ≤ 1099511627776)))] [] rfl rfl ?_
  refine C_ret ?_
  obtain rfl := Option.some.inj h
  exact ⟨_, rfl, rfl, hk0, rfl⟩
 ·replace h := ocond_f h hg1689
  refine O_move (sl' := []) (.bool false) rfl (congrArg (fun b => some (AV.bool b)) hg1689) rfl rfl rfl ?_
  refine O_skip rfl rfl ?_
  refine O_skip rfl rfl ?_
  refine oP (.bool false) ?_
  refine oA (.bool false) ?_
  refine O_nil ?_
  refine keep_to [(2, .bool false)] [] rfl rfl ?_
  refine C_ret ?_
  obtain rfl := Option.some.inj h
  exact ⟨_, rfl, rfl, hk0, rfl⟩
/- freshet/window.kinds$2 -/
def s75 (N : Nat) (p0 : T36) : Option Bool :=
Option.bind (s76 N p0.Size) fun x1706 =>
cond (x1706)
 (some ((p0.Slide : Int) == 0))
 (some false)
set_option maxRecDepth 8000 in
set_option maxHeartbeats 4000000 in
theorem w75 (N : Nat) {lo : Nat} {cl : Cl} {H : Hp} (p0 : T36) (hf : Fit lo cl H) {r : Bool} (h : s75 N p0 = some r) : CallsR Tryd.prog (Kj lo) 75 [.agg [.int .i64 p0.Kind, .int .i64 p0.Size, .int .i64 p0.Slide]] H (cl) fun x H' cl' => x = .bool r ∧ Kp [] H H' ∧ cl = cl' := by
 refine calls_by Tryd.func75 rfl rfl rfl ?_
 unfold s75 at h
 have hk0 : Kp [] H H := Kp.refl H
 refine C_seq ?_
 refine C_reg ?_
 refine oN (.agg [.int .i64 p0.Kind, .int .i64 p0.Size, .int .i64 p0.Slide]) fun id1698 H1696 hi1699 hH1700 => ?_
 have hb1697 : H1696[id1698]? = some (some ⟨36, [.int .i64 p0.Kind, .int .i64 p0.Size, .int .i64 p0.Slide]⟩) := getL hi1699 hH1700
 have ho1701 := Own.mk2 hf hk0 (Nat.le_of_eq hi1699)
 have hk1702 := kpA hH1700 hk0
 refine oB (.bool false) ?_
 refine O_nil ?_
 refine keep_to [(1, .ptr id1698 0)] [] rfl rfl ?_
 refine C_seq ?_
 refine C_reg ?_
 refine oP (.ptr id1698 1) ?_
 refine oL (.int .i64 p0.Size) hb1697 ?_
 obtain ⟨x1706, hx1707, h⟩ := obind_some h
 refine oK [.int .i64 p0.Size] (w76 N (lo := lo) p0.Size (hf.kp hk1702) hx1707) ?_
 rintro _ H1703 _ ⟨rfl, hk1704, rfl⟩
 have hb1708 := hk1704.get0 hb1697
 have hk1709 := hk1702.trans hk1704
 rcases Bool.eq_false_or_eq_true (x1706) with hg1710 | hg1710
 ·replace h := ocond_t h hg1710
  refine O_move (sl' := []) (.bool true) rfl (congrArg (fun b => some (AV.bool b)) hg1710) rfl rfl rfl ?_
  refine oP (.ptr id1698 2) ?_
  refine oL (.int .i64 p0.Slide) hb1708 ?_
  refine oP (.bool ((p0.Slide : Int) == 0)) ?_
  refine oP (.bool ((p0.Slide : Int) == 0)) ?_
  refine oA (.bool ((p0.Slide : Int) == 0)) ?_
  refine O_nil ?_
  refine keep_to [(2, .bool ((p0.Slide : Int) == 0))] [] rfl rfl ?_
  refine C_ret ?_
  obtain rfl := Option.some.inj h
  exact ⟨_, rfl, rfl, hk1709, rfl⟩
 ·replace h := ocond_f h hg1710
  refine O_move (sl' := []) (.bool false) rfl (congrArg (fun b => some (AV.bool b)) hg1710) rfl rfl rfl ?_
  refine O_skip rfl rfl ?_
  refine O_skip rfl rfl ?_
  refine O_skip rfl rfl ?_
  refine oP (.bool false) ?_
  refine oA (.bool false) ?_
  refine O_nil ?_
  refine keep_to [(2, .bool false)] [] rfl rfl ?_
  refine C_ret ?_
  obtain rfl := Option.some.inj h
  exact ⟨_, rfl, rfl, hk1709, rfl⟩
/- freshet/window.kinds$4 -/
def s78 (N : Nat) (p0 : T36) : Option Bool :=
Option.bind (s76 N p0.Size) fun x1754 =>
cond (x1754)
 (Option.bind (s76 N p0.Slide) fun x1762 =>
cond (x1762)
 (some (decide ((p0.Size : Int) ≤ IntKind.wrap .i64 (8 * p0.Slide))))
 (some false))
 (some false)
set_option maxRecDepth 8000 in
set_option maxHeartbeats 4000000 in
theorem w78 (N : Nat) {lo : Nat} {cl : Cl} {H : Hp} (p0 : T36) (hf : Fit lo cl H) {r : Bool} (h : s78 N p0 = some r) : CallsR Tryd.prog (Kj lo) 78 [.agg [.int .i64 p0.Kind, .int .i64 p0.Size, .int .i64 p0.Slide]] H (cl) fun x H' cl' => x = .bool r ∧ Kp [] H H' ∧ cl = cl' := by
 refine calls_by Tryd.func78 rfl rfl rfl ?_
 unfold s78 at h
 have hk0 : Kp [] H H := Kp.refl H
 refine C_seq ?_
 refine C_reg ?_
 refine oN (.agg [.int .i64 p0.Kind, .int .i64 p0.Size, .int .i64 p0.Slide]) fun id1746 H1744 hi1747 hH1748 => ?_
 have hb1745 : H1744[id1746]? = some (some ⟨36, [.int .i64 p0.Kind, .int .i64 p0.Size, .int .i64 p0.Slide]⟩) := getL hi1747 hH1748
 have ho1749 := Own.mk2 hf hk0 (Nat.le_of_eq hi1747)
 have hk1750 := kpA hH1748 hk0
 refine oB (.bool false) ?_
 refine O_nil ?_
 refine keep_to [(1, .ptr id1746 0)] [] rfl rfl ?_
 refine C_seq ?_
 refine C_reg ?_
 refine oP (.ptr id1746 1) ?_
 refine oL (.int .i64 p0.Size) hb1745 ?_
 obtain ⟨x1754, hx1755, h⟩ := obind_some h
 refine oK [.int .i64 p0.Size] (w76 N (lo := lo) p0.Size (hf.kp hk1750) hx1755) ?_
 rintro _ H1751 _ ⟨rfl, hk1752, rfl⟩
 have hb1756 := hk1752.get0 hb1745
 have hk1757 := hk1750.trans hk1752
 rcases Bool.eq_false_or_eq_true (x1754) with hg1758 | hg1758
 ·replace h := ocond_t h hg1758
  refine O_move (sl' := []) (.bool true) rfl (congrArg (fun b => some (AV.bool b)) hg1758) rfl rfl rfl ?_
  refine oP (.ptr id1746 2) ?_
  refine oL (.int .i64 p0.Slide) hb1756 ?_
  obtain ⟨x1762, hx1763, h⟩ := obind_some h
  refine oK [.int .i64 p0.Slide] (w76 N (lo := lo) p0.Slide (hf.kp hk1757) hx1763) ?_
  rintro _ H1759 _ ⟨rfl, hk1760, rfl⟩
  have hb1764 := hk1760.get0 hb1756
  have hk1765 := hk1757.trans hk1760
  refine oP (.bool x1762) ?_
  rcases Bool.eq_false_or_eq_true (x1762) with hg1766 | hg1766
  ·replace h := ocond_t h hg1766
   refine O_move (sl' := []) (.bool true) rfl (congrArg (fun b => some (AV.bool b)) hg1766) rfl rfl rfl ?_
   refine oP (.ptr id1746 1) ?_
   refine oL (.int .i64 p0.Size) hb1764 ?_
   refine oP (.ptr id1746 2) ?_
   refine oL (.int .i64 p0.Slide) hb1764 ?_
   refine oP (.int .i64 (IntKind.wrap .i64 (8 * p0.Slide))) ?_
   refine oP (.bool (decide ((p0.Size : Int) ≤ IntKind.wrap .i64 (8 * p0.Slide)))) ?_
   refine oP (.bool (decide ((p0.Size : Int) ≤ IntKind.wrap .i64 (8 * p0.Slide)))) ?_
   refine oA (.bool (decide ((p0.Size : Int) ≤ IntKind.wrap .i64 (8 * p0.Slide)))) ?_
   refine O_nil ?_
   refine keep_to [(2, .bool (decide ((p0.Size : Int) ≤ IntKind.wrap .i64 (8 * p0.Slide))))] [] rfl rfl ?_
   refine C_ret ?_
   obtain rfl := Option.some.inj h
   exact ⟨_, rfl, rfl, hk1765, rfl⟩
  ·replace h := ocond_f h hg1766
   refine O_move (sl' := []) (.bool false) rfl (congrArg (fun b => some (AV.bool b)) hg1766) rfl rfl rfl ?_
   refine O_skip rfl rfl ?_
   refine O_skip rfl rfl ?_
   refine O_skip rfl rfl ?_
   refine O_skip rfl rfl ?_
   refine O_skip rfl rfl ?_
   refine O_skip rfl rfl ?_
   refine oP (.bool false) ?_
   refine oA (.bool false) ?_
   refine O_nil ?_
   refine keep_to [(2, .bool false)] [] rfl rfl ?_
   refine C_ret ?_
   obtain rfl := Option.some.inj h
   exact ⟨_, rfl, rfl, hk1765, rfl⟩
 ·replace h := ocond_f h hg1758
  refine O_move (sl' := []) (.bool false) rfl (congrArg (fun b => some (AV.bool b)) hg1758) rfl rfl rfl ?_
  refine O_skip rfl rfl ?_
  refine O_skip rfl rfl ?_
  refine O_skip rfl rfl ?_
  refine oP (.bool false) ?_
  refine oM (.bool false) ?_
  refine O_skip rfl rfl ?_
  refine O_skip rfl rfl ?_
  refine O_skip rfl rfl ?_
  refine O_skip rfl rfl ?_
  refine O_skip rfl rfl ?_
  refine O_skip rfl rfl ?_
  refine oP (.bool false) ?_
  refine oA (.bool false) ?_
  refine O_nil ?_
  refine keep_to [(2, .bool false)] [] rfl rfl ?_
  refine C_ret ?_
  obtain rfl := Option.some.inj h
  exact ⟨_, rfl, rfl, hk1757, rfl⟩
/- freshet/window.Check -/
def s48 (N : Nat) (p0 : T36) : Option Int :=
cond (decide ((p0.Kind : Int) < 1))
 (some 2)
 (cond (decide ((p0.Kind : Int) ≥ 4))
 (some 2)
 (cond ((p0.Kind : Int) == 0)
 (none)
 (cond ((p0.Kind : Int) == 1)
 (Option.bind (s75 N p0) fun x1756 =>
cond (!x1756)
 (some 2)
 (some 0))
 (cond ((p0.Kind : Int) == 2)
 (Option.bind (s78 N p0) fun x1767 =>
cond (!x1767)
 (some 2)
 (some 0))
 (cond ((p0.Kind : Int) == 3)
 (Option.bind (s75 N p0) fun x1778 =>
cond (!x1778)
 (some 2)
 (some 0))
 (none))))))
set_option maxRecDepth 8000 in
set_option maxHeartbeats 4000000 in
theorem w48 (N : Nat) {lo : Nat} {cl : Cl} {H : Hp} (p0 : T36) (hf : Fit lo cl H) {r : Int} (h : s48 N p0 = some r) : CallsR Tryd.prog (Kj lo) 48 [.agg [.int .i64 p0.Kind, .int .i64 p0.Size, .int .i64 p0.Slide]] H (cl) fun x H' cl' => x = .int .i64 r ∧ Kp [] H H' ∧ cl = cl' := by
 refine calls_by Tryd.func48 rfl rfl rfl ?_
 unfold s48 at h
 have hk0 : Kp [] H H := Kp.refl H
 refine C_seq ?_
 refine C_reg ?_
 refine oN (.agg [.int .i64 p0.Kind, .int .i64 p0.Size, .int .i64 p0.Slide]) fun id1715 H1713 hi1716 hH1717 => ?_
 have hb1714 : H1713[id1715]? = some (some ⟨36, [.int .i64 p0.Kind, .int .i64 p0.Size, .int .i64 p0.Slide]⟩) := getL hi1716 hH1717
 have ho1718 := Own.mk2 hf hk0 (Nat.le_of_eq hi1716)
 have hk1719 := kpA hH1717 hk0
 refine oB (.int .i64 0) ?_
 refine O_nil ?_
 refine keep_to [(1, .ptr id1715 0)] [] rfl rfl ?_
 refine C_seq ?_
 refine C_reg ?_
 refine oK [] (w61 N (lo := lo) (hf.kp hk1719)) ?_
 rintro _ H1720 _ ⟨id1723, rfl, ho1724, hb1725, hk1721, rfl⟩
 have hn1726 : id1715 ≠ id1723 := ne_of_lt hb1714 ho1724
 have hb1727 := hk1721.get0 hb1714
 have hk1728 := hk1719.trans hk1721
 have ho1729 : Am.Own lo cl H id1723 := Own.mk2 hf hk1719 ho1724
 refine oZ [.nilfn, .nilfn, .nilfn, .nilfn, .nilfn, .nilfn, .nilfn, .nilfn] fun id1732 H1730 hi1733 hH1734 => ?_
 have hb1731 : H1730[id1732]? = some (some ⟨100, [.nilfn, .nilfn, .nilfn, .nilfn, .nilfn, .nilfn, .nilfn, .nilfn]⟩) := getL hi1733 hH1734
 have ho1735 := Own.mk2 hf hk1728 (Nat.le_of_eq hi1733)
 have hn1736 := ne_of_lt hb1727 (Nat.le_of_eq hi1733)
 have hn1737 := ne_of_lt hb1725 (Nat.le_of_eq hi1733)
 have hb1738 := getA hH1734 hb1727
 have hb1739 := getA hH1734 hb1725
 have hk1740 := kpA hH1734 hk1728
 refine O_store (sl' := []) (cl' := cl) (.agg [.nilfn, .nilfn, .fn 75 [], .fn 77 [.ptr id1723 0], .fn 78 [], .fn 79 [.ptr id1723 0], .fn 75 [], .fn 80 []]) rfl rfl rfl ho1735.lo hb1731 rfl rfl (fun q h => by cases h) (fun i o h => .inr ⟨h, fun e => ho1735.cl i o h e.1⟩) fun H1741 hH1742 => ?_
 have hb1743 : H1741[id1732]? = some (some ⟨100, [.nilfn, .nilfn, .fn 75 [], .fn 77 [.ptr id1723 0], .fn 78 [], .fn 79 [.ptr id1723 0], .fn 75 [], .fn 80 []]⟩) := getW hH1742 hb1731
 have hb1744 := getS hH1742 hn1736 hb1738
 have hb1745 := getS hH1742 hn1737 hb1739
 have hk1746 := kpS hH1742 ho1735.ge hk1740
 refine O_nil ?_
 refine keep_to [(1, .ptr id1715 0), (3, .ptr id1732 0)] [] rfl rfl ?_
 refine C_seq ?_
 refine C_seq ?_
 refine C_draw0 none (m := false) rfl rfl rfl fun b1747 hb1748 => ?_
 refine oP (.ptr id1715 0) ?_
 refine oL (.int .i64 p0.Kind) hb1744 ?_
 refine oP (.bool (decide ((p0.Kind : Int) < 1))) ?_
 rcases Bool.eq_false_or_eq_true (decide ((p0.Kind : Int) < 1)) with hg1749 | hg1749
 ·replace h := ocond_t h hg1749
  refine O_move (sl' := []) (.bool true) rfl (congrArg (fun b => some (AV.bool b)) hg1749) rfl rfl rfl ?_
  refine O_skip rfl rfl ?_
  refine O_skip rfl rfl ?_
  refine O_skip rfl rfl ?_
  refine oP (.bool true) ?_
  refine oM (.bool true) ?_
  refine O_skip rfl rfl ?_
  refine O_skip rfl rfl ?_
  refine O_skip rfl rfl ?_
  refine O_skip rfl rfl ?_
  refine O_skip rfl rfl ?_
  refine O_skip rfl rfl ?_
  refine O_skip rfl rfl ?_
  refine O_skip rfl rfl ?_
  refine oP (.bool true) ?_
  refine O_nil ?_
  refine keep_to [(22, .bool true)] [] rfl rfl ?_
  refine C_true rfl ?_
  refine C_seq ?_
  refine C_reg ?_
  refine oB (.int .i64 2) ?_
  refine O_nil ?_
  refine keep_to [(2, .int .i64 2)] [] rfl rfl ?_
  refine C_ret ?_
  obtain rfl := Option.some.inj h
  exact ⟨_, rfl, rfl, hk1746, rfl⟩
 ·replace h := ocond_f h hg1749
  refine O_move (sl' := []) (.bool false) rfl (congrArg (fun b => some (AV.bool b)) hg1749) rfl rfl rfl ?_
  refine oP (.ptr id1715 0) ?_
  refine oL (.int .i64 p0.Kind) hb1744 ?_
  refine oP (.bool (decide ((p0.Kind : Int) ≥ 4))) ?_
  refine oP (.bool (decide ((p0.Kind : Int) ≥ 4))) ?_
  rcases Bool.eq_false_or_eq_true (decide ((p0.Kind : Int) ≥ 4)) with hg1750 | hg1750
  ·replace h := ocond_t h hg1750
   refine O_move (sl' := []) (.bool true) rfl (congrArg (fun b => some (AV.bool b)) hg1750) rfl rfl rfl ?_
   refine O_skip rfl rfl ?_
   refine O_skip rfl rfl ?_
   refine O_skip rfl rfl ?_
   refine O_skip rfl rfl ?_
   refine O_skip rfl rfl ?_
   refine O_skip rfl rfl ?_
   refine O_skip rfl rfl ?_
   refine O_skip rfl rfl ?_
   refine oP (.bool true) ?_
   refine O_nil ?_
   refine keep_to [(22, .bool true)] [] rfl rfl ?_
   refine C_true rfl ?_
   refine C_seq ?_
   refine C_reg ?_
   refine oB (.int .i64 2) ?_
   refine O_nil ?_
   refine keep_to [(2, .int .i64 2)] [] rfl rfl ?_
   refine C_ret ?_
   obtain rfl := Option.some.inj h
   exact ⟨_, rfl, rfl, hk1746, rfl⟩
  ·replace h := ocond_f h hg1750
   refine O_move (sl' := []) (.bool false) rfl (congrArg (fun b => some (AV.bool b)) hg1750) rfl rfl rfl ?_
   refine oP (.ptr id1715 0) ?_
   refine oL (.int .i64 p0.Kind) hb1744 ?_
   rcases Bool.eq_false_or_eq_true ((p0.Kind : Int) == 0) with hg1751 | hg1751
   ·replace h := ocond_t h hg1751
    refine O_pure (sl' := []) (.ptr id1732 (0 + 0 * 2)) rfl (idxp_lit (k := 0) (off := 0) (sz := 2) rfl rfl (eq_of_beq hg1751) rfl rfl rfl) rfl rfl ?_
    refine oP (.ptr id1732 0) ?_
    refine oL (.nilfn) hb1743 ?_
    refine oL (.agg [.int .i64 p0.Kind, .int .i64 p0.Size, .int .i64 p0.Slide]) hb1744 ?_
    cases h
   replace h := ocond_f h hg1751
   rcases Bool.eq_false_or_eq_true ((p0.Kind : Int) == 1) with hg1752 | hg1752
   ·replace h := ocond_t h hg1752
    refine O_pure (sl' := []) (.ptr id1732 (0 + 1 * 2)) rfl (idxp_lit (k := 1) (off := 0) (sz := 2) rfl rfl (eq_of_beq hg1752) rfl rfl rfl) rfl rfl ?_
    refine oP (.ptr id1732 2) ?_
    refine oL (.fn 75 []) hb1743 ?_
    refine oL (.agg [.int .i64 p0.Kind, .int .i64 p0.Size, .int .i64 p0.Slide]) hb1744 ?_
    obtain ⟨x1756, hx1757, h⟩ := obind_some h
    refine oK [.agg [.int .i64 p0.Kind, .int .i64 p0.Size, .int .i64 p0.Slide]] (w75 N (lo := lo) p0 (hf.kp hk1746) hx1757) ?_
    rintro _ H1753 _ ⟨rfl, hk1754, rfl⟩
    have hb1758 := hk1754.get0 hb1744
    have hb1759 := hk1754.get0 hb1745
    have hb1760 := hk1754.get0 hb1743
    have hk1761 := hk1746.trans hk1754
    refine oP (.bool (!x1756)) ?_
    refine oP (.bool (!x1756)) ?_
    refine O_nil ?_
    refine keep_to [(22, .bool (!x1756))] [] rfl rfl ?_
    refine C_cond (!x1756) rfl (fun hc1762 => ?_) (fun hc1762 => ?_)
    ·replace h := ocond_t h hc1762
     refine C_seq ?_
     refine C_reg ?_
     refine oB (.int .i64 2) ?_
     refine O_nil ?_
     refine keep_to [(2, .int .i64 2)] [] rfl rfl ?_
     refine C_ret ?_
     obtain rfl := Option.some.inj h
     exact ⟨_, rfl, rfl, hk1761, rfl⟩
    ·replace h := ocond_f h hc1762
     refine C_skip ?_
     refine C_seq ?_
     refine C_reg ?_
     refine oB (.int .i64 0) ?_
     refine O_nil ?_
     refine keep_to [(2, .int .i64 0)] [] rfl rfl ?_
     refine C_ret ?_
     obtain rfl := Option.some.inj h
     exact ⟨_, rfl, rfl, hk1761, rfl⟩
   replace h := ocond_f h hg1752
   rcases Bool.eq_false_or_eq_true ((p0.Kind : Int) == 2) with hg1763 | hg1763
   ·replace h := ocond_t h hg1763
    refine O_pure (sl' := []) (.ptr id1732 (0 + 2 * 2)) rfl (idxp_lit (k := 2) (off := 0) (sz := 2) rfl rfl (eq_of_beq hg1763) rfl rfl rfl) rfl rfl ?_
    refine oP (.ptr id1732 4) ?_
    refine oL (.fn 78 []) hb1743 ?_
    refine oL (.agg [.int .i64 p0.Kind, .int .i64 p0.Size, .int .i64 p0.Slide]) hb1744 ?_
    obtain ⟨x1767, hx1768, h⟩ := obind_some h
    refine oK [.agg [.int .i64 p0.Kind, .int .i64 p0.Size, .int .i64 p0.Slide]] (w78 N (lo := lo) p0 (hf.kp hk1746) hx1768) ?_
    rintro _ H1764 _ ⟨rfl, hk1765, rfl⟩
    have hb1769 := hk1765.get0 hb1744
    have hb1770 := hk1765.get0 hb1745
    have hb1771 := hk1765.get0 hb1743
    have hk1772 := hk1746.trans hk1765
    refine oP (.bool (!x1767)) ?_
    refine oP (.bool (!x1767)) ?_
    refine O_nil ?_
    refine keep_to [(22, .bool (!x1767))] [] rfl rfl ?_
    refine C_cond (!x1767) rfl (fun hc1773 => ?_) (fun hc1773 => ?_)
    ·replace h := ocond_t h hc1773
     refine C_seq ?_
     refine C_reg ?_
     refine oB (.int .i64 2) ?_
     refine O_nil ?_
     refine keep_to [(2, .int .i64 2)] [] rfl rfl ?_
     refine C_ret ?_
     obtain rfl := Option.some.inj h
     exact ⟨_, rfl, rfl, hk1772, rfl⟩
    ·replace h := ocond_f h hc1773
     refine C_skip ?_
     refine C_seq ?_
     refine C_reg ?_
     refine oB (.int .i64 0) ?_
     refine O_nil ?_
     refine keep_to [(2, .int .i64 0)] [] rfl rfl ?_
     refine C_ret ?_
     obtain rfl := Option.some.inj h
     exact ⟨_, rfl, rfl, hk1772, rfl⟩
   replace h := ocond_f h hg1763
   rcases Bool.eq_false_or_eq_true ((p0.Kind : Int) == 3) with hg1774 | hg1774
   ·replace h := ocond_t h hg1774
    refine O_pure (sl' := []) (.ptr id1732 (0 + 3 * 2)) rfl (idxp_lit (k := 3) (off := 0) (sz := 2) rfl rfl (eq_of_beq hg1774) rfl rfl rfl) rfl rfl ?_
    refine oP (.ptr id1732 6) ?_
    refine oL (.fn 75 []) hb1743 ?_
    refine oL (.agg [.int .i64 p0.Kind, .int .i64 p0.Size, .int .i64 p0.Slide]) hb1744 ?_
    obtain ⟨x1778, hx1779, h⟩ := obind_some h
    refine oK [.agg [.int .i64 p0.Kind, .int .i64 p0.Size, .int .i64 p0.Slide]] (w75 N (lo := lo) p0 (hf.kp hk1746) hx1779) ?_
    rintro _ H1775 _ ⟨rfl, hk1776, rfl⟩
    have hb1780 := hk1776.get0 hb1744
    have hb1781 := hk1776.get0 hb1745
    have hb1782 := hk1776.get0 hb1743
    have hk1783 := hk1746.trans hk1776
    refine oP (.bool (!x1778)) ?_
    refine oP (.bool (!x1778)) ?_
    refine O_nil ?_
    refine keep_to [(22, .bool (!x1778))] [] rfl rfl ?_
    refine C_cond (!x1778) rfl (fun hc1784 => ?_) (fun hc1784 => ?_)
    ·replace h := ocond_t h hc1784
     refine C_seq ?_
     refine C_reg ?_
     refine oB (.int .i64 2) ?_
     refine O_nil ?_
     refine keep_to [(2, .int .i64 2)] [] rfl rfl ?_
     refine C_ret ?_
     obtain rfl := Option.some.inj h
     exact ⟨_, rfl, rfl, hk1783, rfl⟩
    ·replace h := ocond_f h hc1784
     refine C_skip ?_
     refine C_seq ?_
     refine C_reg ?_
     refine oB (.int .i64 0) ?_
     refine O_nil ?_
     refine keep_to [(2, .int .i64 0)] [] rfl rfl ?_
     refine C_ret ?_
     obtain rfl := Option.some.inj h
     exact ⟨_, rfl, rfl, hk1783, rfl⟩
   replace h := ocond_f h hg1774
   cases h
/- freshet/job.may -/
def s31 (N : Nat) (p0 : T38) : Option Bool :=
Option.bind (s47 N p0.Name) fun x1819 =>
cond (x1819)
 (cond (decide ((p0.Agg : Int) ≥ 1))
 (cond (decide ((p0.Agg : Int) ≤ 8))
 (Option.bind (s48 N (T36.mk p0.Windows_Kind p0.Windows_Size p0.Windows_Slide)) fun x1829 =>
some ((x1829 : Int) == 0))
 (some false))
 (some false))
 (some false)
set_option maxRecDepth 8000 in
set_option maxHeartbeats 4000000 in
theorem w31 (N : Nat) {lo : Nat} {cl : Cl} {H : Hp} (p0 : T38) (hf : Fit lo cl H) {r : Bool} (h : s31 N p0 = some r) : CallsR Tryd.prog (Kj lo) 31 [.agg [.str p0.Name, .int .i64 p0.Agg, .int .i64 p0.Windows_Kind, .int .i64 p0.Windows_Size, .int .i64 p0.Windows_Slide]] H (cl) fun x H' cl' => x = .bool r ∧ Kp [] H H' ∧ cl = cl' := by
 refine calls_by Tryd.func31 rfl rfl rfl ?_
 unfold s31 at h
 have hk0 : Kp [] H H := Kp.refl H
 refine C_seq ?_
 refine C_reg ?_
 refine oN (.agg [.str p0.Name, .int .i64 p0.Agg, .int .i64 p0.Windows_Kind, .int .i64 p0.Windows_Size, .int .i64 p0.Windows_Slide]) fun id1811 H1809 hi1812 hH1813 => ?_
 have hb1810 : H1809[id1811]? = some (some ⟨38, [.str p0.Name, .int .i64 p0.Agg, .int .i64 p0.Windows_Kind, .int .i64 p0.Windows_Size, .int .i64 p0.Windows_Slide]⟩) := getL hi1812 hH1813
 have ho1814 := Own.mk2 hf hk0 (Nat.le_of_eq hi1812)
 have hk1815 := kpA hH1813 hk0
 refine oB (.bool false) ?_
 refine O_nil ?_
 refine keep_to [(1, .ptr id1811 0)] [] rfl rfl ?_
 refine C_seq ?_
 refine C_reg ?_
 refine oP (.ptr id1811 0) ?_
 refine oL (.str p0.Name) hb1810 ?_
 obtain ⟨x1819, hx1820, h⟩ := obind_some h
 refine oK [.str p0.Name] (w47 N (lo := lo) p0.Name (hf.kp hk1815) hx1820) ?_
 rintro _ H1816 _ ⟨rfl, hk1817, rfl⟩
 have hb1821 := hk1817.get0 hb1810
 have hk1822 := hk1815.trans hk1817
 rcases Bool.eq_false_or_eq_true (x1819) with hg1823 | hg1823
 ·replace h := ocond_t h hg1823
  refine O_move (sl' := []) (.bool true) rfl (congrArg (fun b => some (AV.bool b)) hg1823) rfl rfl rfl ?_
  refine oP (.ptr id1811 1) ?_
  refine oL (.int .i64 p0.Agg) hb1821 ?_
  refine oP (.bool (decide ((p0.Agg : Int) ≥ 1))) ?_
  refine oP (.bool (decide ((p0.Agg : Int) ≥ 1))) ?_
  rcases Bool.eq_false_or_eq_true (decide ((p0.Agg : Int) ≥ 1)) with hg1824 | hg1824
  ·replace h := ocond_t h hg1824
   refine O_move (sl' := []) (.bool true) rfl (congrArg (fun b => some (AV.bool b)) hg1824) rfl rfl rfl ?_
   refine oP (.ptr id1811 1) ?_
   refine oL (.int .i64 p0.Agg) hb1821 ?_
   refine oP (.bool (decide ((p0.Agg : Int) ≤ 8))) ?_
   refine oP (.bool (decide ((p0.Agg : Int) ≤ 8))) ?_
   rcases Bool.eq_false_or_eq_true (decide ((p0.Agg : Int) ≤ 8)) with hg1825 | hg1825
   ·replace h := ocond_t h hg1825
    refine O_move (sl' := []) (.bool true) rfl (congrArg (fun b => some (AV.bool b)) hg1825) rfl rfl rfl ?_
    refine oP (.ptr id1811 2) ?_
    refine oL (.agg [.int .i64 p0.Windows_Kind, .int .i64 p0.Windows_Size, .int .i64 p0.Windows_Slide]) hb1821 ?_
    obtain ⟨x1829, hx1830, h⟩ := obind_some h
    refine oK [.agg [.int .i64 p0.Windows_Kind, .int .i64 p0.Windows_Size, .int .i64 p0.Windows_Slide]] (w48 N (lo := lo) (T36.mk p0.Windows_Kind p0.Windows_Size p0.Windows_Slide) (hf.kp hk1822) hx1830) ?_
    rintro _ H1826 _ ⟨rfl, hk1827, rfl⟩
    have hb1831 := hk1827.get0 hb1821
    have hk1832 := hk1822.trans hk1827
    refine oP (.bool ((x1829 : Int) == 0)) ?_
    refine oP (.bool ((x1829 : Int) == 0)) ?_
    refine oA (.bool ((x1829 : Int) == 0)) ?_
    refine O_nil ?_
    refine keep_to [(2, .bool ((x1829 : Int) == 0))] [] rfl rfl ?_
    refine C_ret ?_
    obtain rfl := Option.some.inj h
    exact ⟨_, rfl, rfl, hk1832, rfl⟩
   ·replace h := ocond_f h hg1825
    refine O_move (sl' := []) (.bool false) rfl (congrArg (fun b => some (AV.bool b)) hg1825) rfl rfl rfl ?_
    refine O_skip rfl rfl ?_
    refine O_skip rfl rfl ?_
    refine O_skip rfl rfl ?_
    refine O_skip rfl rfl ?_
    refine oP (.bool false) ?_
    refine oA (.bool false) ?_
    refine O_nil ?_
    refine keep_to [(2, .bool false)] [] rfl rfl ?_
    refine C_ret ?_
    obtain rfl := Option.some.inj h
    exact ⟨_, rfl, rfl, hk1822, rfl⟩
  ·replace h := ocond_f h hg1824
   refine O_move (sl' := []) (.bool false) rfl (congrArg (fun b => some (AV.bool b)) hg1824) rfl rfl rfl ?_
   refine O_skip rfl rfl ?_
   refine O_skip rfl rfl ?_
   refine O_skip rfl rfl ?_
   refine oP (.bool false) ?_
   refine oM (.bool false) ?_
   refine O_skip rfl rfl ?_
   refine O_skip rfl rfl ?_
   refine O_skip rfl rfl ?_
   refine O_skip rfl rfl ?_
   refine oP (.bool false) ?_
   refine oA (.bool false) ?_
   refine O_nil ?_
   refine keep_to [(2, .bool false)] [] rfl rfl ?_
   refine C_ret ?_
   obtain rfl := Option.some.inj h
   exact ⟨_, rfl, rfl, hk1822, rfl⟩
 ·replace h := ocond_f h hg1823
  refine O_move (sl' := []) (.bool false) rfl (congrArg (fun b => some (AV.bool b)) hg1823) rfl rfl rfl ?_
  refine O_skip rfl rfl ?_
  refine O_skip rfl rfl ?_
  refine O_skip rfl rfl ?_
  refine oP (.bool false) ?_
  refine oM (.bool false) ?_
  refine O_skip rfl rfl ?_
  refine O_skip rfl rfl ?_
  refine O_skip rfl rfl ?_
  refine oP (.bool false) ?_
  refine oM (.bool false) ?_
  refine O_skip rfl rfl ?_
  refine O_skip rfl rfl ?_
  refine O_skip rfl rfl ?_
  refine O_skip rfl rfl ?_
  refine oP (.bool false) ?_
  refine oA (.bool false) ?_
  refine O_nil ?_
  refine keep_to [(2, .bool false)] [] rfl rfl ?_
  refine C_ret ?_
  obtain rfl := Option.some.inj h
  exact ⟨_, rfl, rfl, hk1822, rfl⟩
/- freshet/job.numbered -/
def s40 (N : Nat) (p0 : Bs) : Option (Int × Bool) :=
Option.bind (parseS p0 10 64) fun x1850 =>
cond (x1850.2)
 (cond (decide ((x1850.1 : Int) ≤ 1099511627776))
 (Option.bind (fmtUS x1850.1 10) fun x1858 =>
some ((IntKind.wrap .i64 x1850.1), ((x1858 : Bs) == p0)))
 (some ((IntKind.wrap .i64 x1850.1), false)))
 (some ((IntKind.wrap .i64 x1850.1), false))
set_option maxRecDepth 8000 in
set_option maxHeartbeats 4000000 in
theorem w40 (N : Nat) {lo : Nat} {cl : Cl} {H : Hp} (p0 : Bs) (hf : Fit lo cl H) {r : (Int × Bool)} (h : s40 N p0 = some r) : CallsR Tryd.prog (Kj lo) 40 [.str p0] H (cl) fun x H' cl' => x = .tup [.int .i64 r.1, .bool r.2] ∧ Kp [] H H' ∧ cl = cl' := by
 refine calls_by Tryd.func40 rfl rfl rfl ?_
 unfold s40 at h
 have hk0 : Kp [] H H := Kp.refl H
 refine C_seq ?_
 refine C_reg ?_
 refine oB (.int .i64 0) ?_
 refine oB (.bool false) ?_
 refine O_nil ?_
 refine keep_to [(0, .str p0)] [] rfl rfl ?_
 refine C_seq ?_
 refine C_reg ?_
 refine oM (.str p0) ?_
 obtain ⟨x1850, hx1851, h⟩ := obind_some h
 refine oK [.str p0, .int .i64 10, .int .i64 64] (wParse (lo := lo) p0 10 64 hx1851) ?_
 rintro _ H1847 _ ⟨rfl, hk1848, rfl⟩
 have hk1852 := hk0.trans hk1848
 refine oM (.tup [.int .u64 x1850.1, cond x1850.2 .nili (.iface 120 .undef)]) ?_
 refine oP (.int .u64 x1850.1) ?_
 refine oP (cond x1850.2 .nili (.iface 120 .undef)) ?_
 refine oA (.int .u64 x1850.1) ?_
 refine oA (cond x1850.2 .nili (.iface 120 .undef)) ?_
 refine O_nil ?_
 refine keep_to [(0, .str p0), (4, .int .u64 x1850.1), (5, cond x1850.2 .nili (.iface 120 .undef))] [] rfl rfl ?_
 refine C_seq ?_
 refine C_reg ?_
 refine oM (.int .u64 x1850.1) ?_
 refine oP (.int .i64 (IntKind.wrap .i64 x1850.1)) ?_
 refine oM (cond x1850.2 .nili (.iface 120 .undef)) ?_
 refine oQ (.bool x1850.2) (eq_nili rfl (.inr ⟨_, rfl⟩)) ?_
 rcases Bool.eq_false_or_eq_true (x1850.2) with hg1853 | hg1853
 ·replace h := ocond_t h hg1853
  refine O_move (sl' := []) (.bool true) rfl (congrArg (fun b => some (AV.bool b)) hg1853) rfl rfl rfl ?_
  refine oM (.int .u64 x1850.1) ?_
  refine oP (.bool (decide ((x1850.1 : Int) ≤ 1099511627776))) ?_
  refine oP (.bool (decide ((x1850.1 : Int) ≤ 1099511627776))) ?_
  rcases Bool.eq_false_or_eq_true (decide ((x1850.1 : Int) ≤ 1099511627776)) with hg1854 | hg1854
  ·replace h := ocond_t h hg1854
   refine O_move (sl' := []) (.bool true) rfl (congrArg (fun b => some (AV.bool b)) hg1854) rfl rfl rfl ?_
   refine oM (.int .u64 x1850.1) ?_
   obtain ⟨x1858, hx1859, h⟩ := obind_some h
   refine oK [.int .u64 x1850.1, .int .i64 10] (wFmtU (lo := lo) x1850.1 10 hx1859) ?_
   rintro _ H1855 _ ⟨rfl, hk1856, rfl⟩
   have hk1860 := hk1852.trans hk1856
   refine oM (.str p0) ?_
   refine oP (.bool ((x1858 : Bs) == p0)) ?_
   refine oP (.bool ((x1858 : Bs) == p0)) ?_
   refine oA (.int .i64 (IntKind.wrap .i64 x1850.1)) ?_
   refine oA (.bool ((x1858 : Bs) == p0)) ?_
   refine O_nil ?_
   refine keep_to [(2, .int .i64 (IntKind.wrap .i64 x1850.1)), (3, .bool ((x1858 : Bs) == p0))] [] rfl rfl ?_
   refine C_ret ?_
   obtain rfl := Option.some.inj h
   exact ⟨_, rfl, rfl, hk1860, rfl⟩
  ·replace h := ocond_f h hg1854
   refine O_move (sl' := []) (.bool false) rfl (congrArg (fun b => some (AV.bool b)) hg1854) rfl rfl rfl ?_
   refine O_skip rfl rfl ?_
   refine O_skip rfl rfl ?_
   refine O_skip rfl rfl ?_
   refine O_skip rfl rfl ?_
   refine oP (.bool false) ?_
   refine oA (.int .i64 (IntKind.wrap .i64 x1850.1)) ?_
   refine oA (.bool false) ?_
   refine O_nil ?_
   refine keep_to [(2, .int .i64 (IntKind.wrap .i64 x1850.1)), (3, .bool false)] [] rfl rfl ?_
   refine C_ret ?_
   obtain rfl := Option.some.inj h
   exact ⟨_, rfl, rfl, hk1852, rfl⟩
 ·replace h := ocond_f h hg1853
  refine O_move (sl' := []) (.bool false) rfl (congrArg (fun b => some (AV.bool b)) hg1853) rfl rfl rfl ?_
  refine O_skip rfl rfl ?_
  refine O_skip rfl rfl ?_
  refine oP (.bool false) ?_
  refine oM (.bool false) ?_
  refine O_skip rfl rfl ?_
  refine O_skip rfl rfl ?_
  refine O_skip rfl rfl ?_
  refine O_skip rfl rfl ?_
  refine oP (.bool false) ?_
  refine oA (.int .i64 (IntKind.wrap .i64 x1850.1)) ?_
  refine oA (.bool false) ?_
  refine O_nil ?_
  refine keep_to [(2, .int .i64 (IntKind.wrap .i64 x1850.1)), (3, .bool false)] [] rfl rfl ?_
  refine C_ret ?_
  obtain rfl := Option.some.inj h
  exact ⟨_, rfl, rfl, hk1852, rfl⟩
end Go.Proofs.YtecdcnacjlcjoaaDoor.Job

/- Job: walks (GI). Printed by a small program. -/
namespace Go.Proofs.YtecdcnacjlcjoaaDoor.Job
open Am
set_option linter.unusedVariables false
set_option linter.unusedSimpArgs false
/- freshet/job.Check$1 -/
def s33_0 (N : Nat) (p0 : T38) (pc0_0 : Bs) (pc0_1 : Int) (pc0_2 : Int) (pc0_3 : Int) (pc0_4 : Int) : Option Bool :=
some ((p0.Name : Bs) == pc0_0)
set_option maxRecDepth 8000 in
set_option maxHeartbeats 4000000 in
theorem w33_0 (N : Nat) {lo : Nat} {cl : Cl} {H : Hp} (p0 : T38) (pc0_0 : Bs) (pc0_1 : Int) (pc0_2 : Int) (pc0_3 : Int) (pc0_4 : Int) {idc0 : Nat} (hbc0 : H[idc0]? = some (some ⟨38, [.str pc0_0, .int .i64 pc0_1, .int .i64 pc0_2, .int .i64 pc0_3, .int .i64 pc0_4]⟩)) (hf : Fit lo cl H) {r : Bool} (h : s33_0 N p0 pc0_0 pc0_1 pc0_2 pc0_3 pc0_4 = some r) : CallsR Tryd.prog (Kj lo) 33 [.agg [.str p0.Name, .int .i64 p0.Agg, .int .i64 p0.Windows_Kind, .int .i64 p0.Windows_Size, .int .i64 p0.Windows_Slide], .ptr idc0 0] H (cl) fun x H' cl' => x = .bool r ∧ Kp [] H H' ∧ cl = cl' := by
 refine calls_by Tryd.func33 rfl rfl rfl ?_
 unfold s33_0 at h
 have hk0 : Kp [] H H := Kp.refl H
 refine C_seq ?_
 refine C_reg ?_
 refine oN (.agg [.str p0.Name, .int .i64 p0.Agg, .int .i64 p0.Windows_Kind, .int .i64 p0.Windows_Size, .int .i64 p0.Windows_Slide]) fun id1924 H1922 hi1925 hH1926 => ?_
 have hb1923 : H1922[id1924]? = some (some ⟨38, [.str p0.Name, .int .i64 p0.Agg, .int .i64 p0.Windows_Kind, .int .i64 p0.Windows_Size, .int .i64 p0.Windows_Slide]⟩) := getL hi1925 hH1926
 have ho1927 := Own.mk2 hf hk0 (Nat.le_of_eq hi1925)
 have hn1928 := ne_of_lt hbc0 (Nat.le_of_eq hi1925)
 have hb1929 := getA hH1926 hbc0
 have hk1930 := kpA hH1926 hk0
 refine oB (.bool false) ?_
 refine O_nil ?_
 refine keep_to [(1, .ptr idc0 0), (2, .ptr id1924 0)] [] rfl rfl ?_
 refine C_seq ?_
 refine C_reg ?_
 refine oP (.ptr id1924 0) ?_
 refine oL (.str p0.Name) hb1923 ?_
 refine oP (.ptr idc0 0) ?_
 refine oL (.str pc0_0) hb1929 ?_
 refine oP (.bool ((p0.Name : Bs) == pc0_0)) ?_
 refine oA (.bool ((p0.Name : Bs) == pc0_0)) ?_
 refine O_nil ?_
 refine keep_to [(3, .bool ((p0.Name : Bs) == pc0_0))] [] rfl rfl ?_
 refine C_ret ?_
 obtain rfl := Option.some.inj h
 exact ⟨_, rfl, rfl, hk1930, rfl⟩
set_option linter.unusedVariables false in
def s49_0_l0 (N : Nat) (p0 : (Sl T38)) (p1c0_0 : Bs) (p1c0_1 : Int) (p1c0_2 : Int) (p1c0_3 : Int) (p1c0_4 : Int) (k1931 : Unit → Option Int) : Nat → Int → Option Int
  | 0, _ => none
  | n + 1, v8 => (
cond (decide ((v8 : Int) < Sl.len p0))
 (Option.bind (Sl.get p0 v8) fun o1937 =>
Option.bind (s33_0 N o1937 p1c0_0 p1c0_1 p1c0_2 p1c0_3 p1c0_4) fun x1942 =>
cond (x1942)
 (some v8)
 (s49_0_l0 N p0 p1c0_0 p1c0_1 p1c0_2 p1c0_3 p1c0_4 k1931 n (IntKind.wrap .i64 (v8 + 1))))
 (k1931 ()))
/- slices.IndexFunc[[]freshet/api.Op,freshet/api.Op] -/
def s49_0 (N : Nat) (p0 : (Sl T38)) (p1c0_0 : Bs) (p1c0_1 : Int) (p1c0_2 : Int) (p1c0_3 : Int) (p1c0_4 : Int) : Option Int :=
jn (fun (e1930 : Unit) =>
some (-1)) fun k1931 => s49_0_l0 N p0 p1c0_0 p1c0_1 p1c0_2 p1c0_3 p1c0_4 k1931 N 0
set_option maxRecDepth 8000 in
set_option maxHeartbeats 4000000 in
theorem w49_0 (N : Nat) {lo : Nat} {cl : Cl} {H : Hp} (p0 : (Sl T38)) (p1c0_0 : Bs) (p1c0_1 : Int) (p1c0_2 : Int) (p1c0_3 : Int) (p1c0_4 : Int) {id1c0 : Nat} (hb1c0 : H[id1c0]? = some (some ⟨38, [.str p1c0_0, .int .i64 p1c0_1, .int .i64 p1c0_2, .int .i64 p1c0_3, .int .i64 p1c0_4]⟩)) (hf : Fit lo cl H) {r : Int} (h : s49_0 N p0 p1c0_0 p1c0_1 p1c0_2 p1c0_3 p1c0_4 = some r) : CallsR Tryd.prog (Kj lo) 49 [Sl.enc 38 T38.enc p0, .fn 33 [.ptr id1c0 0]] H (cl) fun x H' cl' => x = .int .i64 r ∧ Kp [] H H' ∧ cl = cl' := by
 refine calls_by Tryd.func49 rfl rfl rfl ?_
 unfold s49_0 at h
 have hk0 : Kp [] H H := Kp.refl H
 refine C_seq ?_
 refine C_reg ?_
 refine oB (.int .i64 0) ?_
 refine O_nil ?_
 refine keep_to [(0, Sl.enc 38 T38.enc p0), (1, .fn 33 [.ptr id1c0 0])] [] rfl rfl ?_
 refine C_seq ?_
 refine C_seq ?_
 refine C_reg ?_
 refine oM (Sl.enc 38 T38.enc p0) ?_
 refine oQ (.int .i64 (Sl.len p0)) (len_sl (f := T38.enc) rfl rfl rfl rfl) ?_
 refine oC (.int .i64 0) ?_
 refine O_nil ?_
 refine keep_to [(0, Sl.enc 38 T38.enc p0), (1, .fn 33 [.ptr id1c0 0]), (7, .int .i64 (Sl.len p0)), (8, .int .i64 0)] [] rfl rfl ?_
 refine C_block ?_
 obtain ⟨k1931, hk1932, h⟩ := jn_some h
 refine C_loopE [0, 1, 7, 8] (fun n env' H' sl' cl' => ∃ (v8 : Int), env' = [(0, Sl.enc 38 T38.enc p0), (1, .fn 33 [.ptr id1c0 0]), (7, .int .i64 (Sl.len p0)), (8, .int .i64 v8)] ∧ sl' = [] ∧ cl = cl' ∧ Kp [] H H' ∧ H'[id1c0]? = some (some ⟨38, [.str p1c0_0, .int .i64 p1c0_1, .int .i64 p1c0_2, .int .i64 p1c0_3, .int .i64 p1c0_4]⟩) ∧ s49_0_l0 N p0 p1c0_0 p1c0_1 p1c0_2 p1c0_3 p1c0_4 k1931 n v8 = some r) 0 [] (fun env' H' sl' cl' => ∃ (e1930 : Unit), env' = [] ∧ sl' = [] ∧ cl = cl' ∧ Kp [] H H' ∧ H'[id1c0]? = some (some ⟨38, [.str p1c0_0, .int .i64 p1c0_1, .int .i64 p1c0_2, .int .i64 p1c0_3, .int .i64 p1c0_4]⟩) ∧ k1931 e1930 = some r) N ⟨0, rfl, rfl, rfl, hk0, hb1c0, h⟩ ?_ ?_
 ·rintro n _ H1933 _ _ ⟨v8, rfl, rfl, rfl, hk1934, hb1935, h⟩
  cases n with
  | zero => rw [s49_0_l0] at h; cases h
  | succ n =>
  rw [s49_0_l0] at h
  refine C_seq ?_
  refine C_reg ?_
  refine oP (.bool (decide ((v8 : Int) < Sl.len p0))) ?_
  refine O_nil ?_
  refine keep_to [(0, Sl.enc 38 T38.enc p0), (1, .fn 33 [.ptr id1c0 0]), (7, .int .i64 (Sl.len p0)), (8, .int .i64 v8), (9, .bool (decide ((v8 : Int) < Sl.len p0)))] [] rfl rfl ?_
  refine C_seq ?_
  refine C_cond (decide ((v8 : Int) < Sl.len p0)) rfl (fun hc1936 => ?_) (fun hc1936 => ?_)
  ·replace h := ocond_t h hc1936
   refine C_skip ?_
   refine C_seq ?_
   refine C_block ?_
   refine C_seq ?_
   refine C_reg ?_
   refine oM (.int .i64 v8) ?_
   refine oA (.int .i64 v8) ?_
   refine O_nil ?_
   refine keep_to [(0, Sl.enc 38 T38.enc p0), (1, .fn 33 [.ptr id1c0 0]), (5, .int .i64 v8), (7, .int .i64 (Sl.len p0)), (8, .int .i64 v8)] [] rfl rfl ?_
   refine C_seq ?_
   refine C_reg ?_
   refine oM (.fn 33 [.ptr id1c0 0]) ?_
   refine oM (Sl.enc 38 T38.enc p0) ?_
   refine oM (.int .i64 v8) ?_
   obtain ⟨o1937, hx1938, h⟩ := obind_some h
   refine oQ (.ept [.str o1937.Name, .int .i64 o1937.Agg, .int .i64 o1937.Windows_Kind, .int .i64 o1937.Windows_Size, .int .i64 o1937.Windows_Slide] 0) (idx_sl (f := T38.enc) rfl rfl rfl hx1938) ?_
   refine oE (.agg [.str o1937.Name, .int .i64 o1937.Agg, .int .i64 o1937.Windows_Kind, .int .i64 o1937.Windows_Size, .int .i64 o1937.Windows_Slide]) ?_
   obtain ⟨x1942, hx1943, h⟩ := obind_some h
   refine oK [.agg [.str o1937.Name, .int .i64 o1937.Agg, .int .i64 o1937.Windows_Kind, .int .i64 o1937.Windows_Size, .int .i64 o1937.Windows_Slide]] (w33_0 N (lo := lo) o1937 p1c0_0 p1c0_1 p1c0_2 p1c0_3 p1c0_4 hb1935 (hf.kp hk1934) hx1943) ?_
   rintro _ H1939 _ ⟨rfl, hk1940, rfl⟩
   have hb1944 := hk1940.get0 hb1935
   have hk1945 := hk1934.trans hk1940
   refine O_nil ?_
   refine keep_to [(0, Sl.enc 38 T38.enc p0), (1, .fn 33 [.ptr id1c0 0]), (5, .int .i64 v8), (7, .int .i64 (Sl.len p0)), (8, .int .i64 v8), (16, .bool x1942)] [] rfl rfl ?_
   refine C_cond (x1942) rfl (fun hc1946 => ?_) (fun hc1946 => ?_)
   ·replace h := ocond_t h hc1946
    refine C_seq ?_
    refine C_reg ?_
    refine oM (.int .i64 v8) ?_
    refine oA (.int .i64 v8) ?_
    refine O_nil ?_
    refine keep_to [(4, .int .i64 v8)] [] rfl rfl ?_
    refine C_ret ?_
    obtain rfl := Option.some.inj h
    exact ⟨_, rfl, rfl, hk1945, rfl⟩
   ·replace h := ocond_f h hc1946
    refine C_skip ?_
    refine C_reg ?_
    refine oP (.int .i64 (IntKind.wrap .i64 (v8 + 1))) ?_
    refine oM (.int .i64 (IntKind.wrap .i64 (v8 + 1))) ?_
    refine O_nil ?_
    refine keep_to [(0, Sl.enc 38 T38.enc p0), (1, .fn 33 [.ptr id1c0 0]), (7, .int .i64 (Sl.len p0)), (8, .int .i64 (IntKind.wrap .i64 (v8 + 1)))] [] rfl rfl ?_
    exact ⟨n, Nat.lt_succ_self n, (IntKind.wrap .i64 (v8 + 1)), rfl, rfl, rfl, hk1945, hb1944, h⟩
  ·replace h := ocond_f h hc1936
   refine C_exit ?_
   exact ⟨_, rfl, rfl, rfl, hk1934, hb1935, h⟩
 ·rintro _ H1947 _ _ ⟨e1930, rfl, rfl, rfl, hk1948, hb1949, h⟩
  subst hk1932
  refine C_seq ?_
  refine C_reg ?_
  refine oB (.int .i64 (-1)) ?_
  refine O_nil ?_
  refine keep_to [(4, .int .i64 (-1))] [] rfl rfl ?_
  refine C_ret ?_
  obtain rfl := Option.some.inj h
  exact ⟨_, rfl, rfl, hk1948, rfl⟩
/- slices.ContainsFunc[[]freshet/api.Op,freshet/api.Op] -/
def s32_0 (N : Nat) (p0 : (Sl T38)) (p1c0_0 : Bs) (p1c0_1 : Int) (p1c0_2 : Int) (p1c0_3 : Int) (p1c0_4 : Int) : Option Bool :=
Option.bind (s49_0 N p0 p1c0_0 p1c0_1 p1c0_2 p1c0_3 p1c0_4) fun x1960 =>
some (decide ((x1960 : Int) ≥ 0))
set_option maxRecDepth 8000 in
set_option maxHeartbeats 4000000 in
theorem w32_0 (N : Nat) {lo : Nat} {cl : Cl} {H : Hp} (p0 : (Sl T38)) (p1c0_0 : Bs) (p1c0_1 : Int) (p1c0_2 : Int) (p1c0_3 : Int) (p1c0_4 : Int) {id1c0 : Nat} (hb1c0 : H[id1c0]? = some (some ⟨38, [.str p1c0_0, .int .i64 p1c0_1, .int .i64 p1c0_2, .int .i64 p1c0_3, .int .i64 p1c0_4]⟩)) (hf : Fit lo cl H) {r : Bool} (h : s32_0 N p0 p1c0_0 p1c0_1 p1c0_2 p1c0_3 p1c0_4 = some r) : CallsR Tryd.prog (Kj lo) 32 [Sl.enc 38 T38.enc p0, .fn 33 [.ptr id1c0 0]] H (cl) fun x H' cl' => x = .bool r ∧ Kp [] H H' ∧ cl = cl' := by
 refine calls_by Tryd.func32 rfl rfl rfl ?_
 unfold s32_0 at h
 have hk0 : Kp [] H H := Kp.refl H
 refine C_seq ?_
 refine C_reg ?_
 refine oB (.bool false) ?_
 refine O_nil ?_
 refine keep_to [(0, Sl.enc 38 T38.enc p0), (1, .fn 33 [.ptr id1c0 0])] [] rfl rfl ?_
 refine C_seq ?_
 refine C_reg ?_
 refine oM (Sl.enc 38 T38.enc p0) ?_
 refine oM (.fn 33 [.ptr id1c0 0]) ?_
 obtain ⟨x1960, hx1961, h⟩ := obind_some h
 refine oK [Sl.enc 38 T38.enc p0, .fn 33 [.ptr id1c0 0]] (w49_0 N (lo := lo) p0 p1c0_0 p1c0_1 p1c0_2 p1c0_3 p1c0_4 hb1c0 (hf.kp hk0) hx1961) ?_
 rintro _ H1957 _ ⟨rfl, hk1958, rfl⟩
 have hb1962 := hk1958.get0 hb1c0
 have hk1963 := hk0.trans hk1958
 refine oP (.bool (decide ((x1960 : Int) ≥ 0))) ?_
 refine oA (.bool (decide ((x1960 : Int) ≥ 0))) ?_
 refine O_nil ?_
 refine keep_to [(4, .bool (decide ((x1960 : Int) ≥ 0)))] [] rfl rfl ?_
 refine C_ret ?_
 obtain rfl := Option.some.inj h
 exact ⟨_, rfl, rfl, hk1963, rfl⟩
set_option linter.unusedVariables false in
def s15_l0 (N : Nat) (p0 : T25) (k1949 : Bool → Option Int) : Nat → Bool → Int → Option Int
  | 0, _, _ => none
  | n + 1, v3, v53 => (
cond (decide ((v53 : Int) < Sl.len p0.Ops))
 (Option.bind (Sl.get p0.Ops v53) fun o1955 =>
cond (v3)
 (Option.bind (s31 N o1955) fun x1975 =>
cond (x1975)
 (Option.bind (Sl.cut p0.Ops none (some v53) none) fun l1981 =>
Option.bind (s32_0 N l1981 o1955.Name o1955.Agg o1955.Windows_Kind o1955.Windows_Size o1955.Windows_Slide) fun x1986 =>
s15_l0 N p0 k1949 n (!x1986) (IntKind.wrap .i64 (v53 + 1)))
 (s15_l0 N p0 k1949 n false (IntKind.wrap .i64 (v53 + 1))))
 (s15_l0 N p0 k1949 n false (IntKind.wrap .i64 (v53 + 1))))
 (k1949 v3))
/- freshet/job.Check -/
def s15 (N : Nat) (p0 : T25) : Option Int :=
Option.bind (cond (decide ((p0.Groups : Int) ≥ 1))
 (cond (decide ((p0.Groups : Int) ≤ 64))
 (cond (decide ((p0.Sources : Int) ≥ 1))
 (cond (decide ((p0.Sources : Int) ≤ 16))
 (cond (decide ((p0.Bound : Int) ≥ 0))
 (cond (decide ((p0.Bound : Int) ≤ 1099511627776))
 (cond (decide ((p0.Late : Int) ≥ 0))
 (cond (decide ((p0.Late : Int) ≤ 1099511627776))
 (some (decide ((Sl.len p0.Ops : Int) ≤ 8)))
 (some false))
 (some false))
 (some false))
 (some false))
 (some false))
 (some false))
 (some false))
 (some false)) fun (v1935 : Bool) =>
jn (fun (e1948 : Bool) =>
cond (!e1948)
 (some 2)
 (some 0)) fun k1949 => s15_l0 N p0 k1949 N v1935 0
set_option maxRecDepth 8000 in
set_option maxHeartbeats 4000000 in
theorem w15 (N : Nat) {lo : Nat} {cl : Cl} {H : Hp} (p0 : T25) (hf : Fit lo cl H) {r : Int} (h : s15 N p0 = some r) : CallsR Tryd.prog (Kj lo) 15 [.agg [.int .i64 p0.Groups, .int .i64 p0.Sources, .int .i64 p0.Bound, .int .i64 p0.Late, Sl.enc 38 T38.enc p0.Ops]] H (cl) fun x H' cl' => x = .int .i64 r ∧ Kp [] H H' ∧ cl = cl' := by
 refine calls_by Tryd.func15 rfl rfl rfl ?_
 unfold s15 at h
 have hk0 : Kp [] H H := Kp.refl H
 refine C_seq ?_
 refine C_reg ?_
 refine oN (.agg [.int .i64 p0.Groups, .int .i64 p0.Sources, .int .i64 p0.Bound, .int .i64 p0.Late, Sl.enc 38 T38.enc p0.Ops]) fun id1930 H1928 hi1931 hH1932 => ?_
 have hb1929 : H1928[id1930]? = some (some ⟨25, [.int .i64 p0.Groups, .int .i64 p0.Sources, .int .i64 p0.Bound, .int .i64 p0.Late, Sl.enc 38 T38.enc p0.Ops]⟩) := getL hi1931 hH1932
 have ho1933 := Own.mk2 hf hk0 (Nat.le_of_eq hi1931)
 have hk1934 := kpA hH1932 hk0
 refine oB (.int .i64 0) ?_
 refine O_nil ?_
 refine keep_to [(1, .ptr id1930 0)] [] rfl rfl ?_
 obtain ⟨v1935, h1936, h⟩ := obind_some h
 refine C_join [1, 3] (fun env' H' sl' cl' => env' = [(1, .ptr id1930 0), (3, .bool v1935)] ∧ sl' = [] ∧ cl = cl' ∧ Kp [] H H' ∧ H'[id1930]? = some (some ⟨25, [.int .i64 p0.Groups, .int .i64 p0.Sources, .int .i64 p0.Bound, .int .i64 p0.Late, Sl.enc 38 T38.enc p0.Ops]⟩)) ?_ ?_
 ·refine C_reg ?_
  refine oP (.ptr id1930 0) ?_
  refine oL (.int .i64 p0.Groups) hb1929 ?_
  refine oP (.bool (decide ((p0.Groups : Int) ≥ 1))) ?_
  rcases Bool.eq_false_or_eq_true (decide ((p0.Groups : Int) ≥ 1)) with hg1937 | hg1937
  ·replace h1936 := ocond_t h1936 hg1937
   refine O_move (sl' := []) (.bool true) rfl (congrArg (fun b => some (AV.bool b)) hg1937) rfl rfl rfl ?_
   refine oP (.ptr id1930 0) ?_
   refine oL (.int .i64 p0.Groups) hb1929 ?_
   refine oP (.bool (decide ((p0.Groups : Int) ≤ 64))) ?_
   refine oP (.bool (decide ((p0.Groups : Int) ≤ 64))) ?_
   rcases Bool.eq_false_or_eq_true (decide ((p0.Groups : Int) ≤ 64)) with hg1938 | hg1938
   ·replace h1936 := ocond_t h1936 hg1938
    refine O_move (sl' := []) (.bool true) rfl (congrArg (fun b => some (AV.bool b)) hg1938) rfl rfl rfl ?_
    refine oP (.ptr id1930 1) ?_
    refine oL (.int .i64 p0.Sources) hb1929 ?_
    refine oP (.bool (decide ((p0.Sources : Int) ≥ 1))) ?_
    refine oP (.bool (decide ((p0.Sources : Int) ≥ 1))) ?_
    rcases Bool.eq_false_or_eq_true (decide ((p0.Sources : Int) ≥ 1)) with hg1939 | hg1939
    ·replace h1936 := ocond_t h1936 hg1939
     refine O_move (sl' := []) (.bool true) rfl (congrArg (fun b => some (AV.bool b)) hg1939) rfl rfl rfl ?_
     refine oP (.ptr id1930 1) ?_
     refine oL (.int .i64 p0.Sources) hb1929 ?_
     refine oP (.bool (decide ((p0.Sources : Int) ≤ 16))) ?_
     refine oP (.bool (decide ((p0.Sources : Int) ≤ 16))) ?_
     rcases Bool.eq_false_or_eq_true (decide ((p0.Sources : Int) ≤ 16)) with hg1940 | hg1940
     ·replace h1936 := ocond_t h1936 hg1940
      refine O_move (sl' := []) (.bool true) rfl (congrArg (fun b => some (AV.bool b)) hg1940) rfl rfl rfl ?_
      refine oP (.ptr id1930 2) ?_
      refine oL (.int .i64 p0.Bound) hb1929 ?_
      refine oP (.bool (decide ((p0.Bound : Int) ≥ 0))) ?_
      refine oP (.bool (decide ((p0.Bound : Int) ≥ 0))) ?_
      rcases Bool.eq_false_or_eq_true (decide ((p0.Bound : Int) ≥ 0)) with hg1941 | hg1941
      ·replace h1936 := ocond_t h1936 hg1941
       refine O_move (sl' := []) (.bool true) rfl (congrArg (fun b => some (AV.bool b)) hg1941) rfl rfl rfl ?_
       refine oP (.ptr id1930 2) ?_
       refine oL (.int .i64 p0.Bound) hb1929 ?_
       refine oP (.bool (decide ((p0.Bound : Int) ≤ 1099511627776))) ?_
       refine oP (.bool (decide ((p0.Bound : Int) ≤ 1099511627776))) ?_
       rcases Bool.eq_false_or_eq_true (decide ((p0.Bound : Int) ≤ 1099511627776)) with hg1942 | hg1942
       ·replace h1936 := ocond_t h1936 hg1942
        refine O_move (sl' := []) (.bool true) rfl (congrArg (fun b => some (AV.bool b)) hg1942) rfl rfl rfl ?_
        refine oP (.ptr id1930 3) ?_
        refine oL (.int .i64 p0.Late) hb1929 ?_
        refine oP (.bool (decide ((p0.Late : Int) ≥ 0))) ?_
        refine oP (.bool (decide ((p0.Late : Int) ≥ 0))) ?_
        rcases Bool.eq_false_or_eq_true (decide ((p0.Late : Int) ≥ 0)) with hg1943 | hg1943
        ·replace h1936 := ocond_t h1936 hg1943
         refine O_move (sl' := []) (.bool true) rfl (congrArg (fun b => some (AV.bool b)) hg1943) rfl rfl rfl ?_
         refine oP (.ptr id1930 3) ?_
         refine oL (.int .i64 p0.Late) hb1929 ?_
         refine oP (.bool (decide ((p0.Late : Int) ≤ 1099511627776))) ?_
         refine oP (.bool (decide ((p0.Late : Int) ≤ 1099511627776))) ?_
         rcases Bool.eq_false_or_eq_true (decide ((p0.Late : Int) ≤ 1099511627776)) with hg1944 | hg1944
         ·replace h1936 := ocond_t h1936 hg1944
          refine O_move (sl' := []) (.bool true) rfl (congrArg (fun b => some (AV.bool b)) hg1944) rfl rfl rfl ?_
          refine oP (.ptr id1930 4) ?_
          refine O_load (cl' := cl) (sl' := []) (Sl.enc 38 T38.enc p0.Ops) rfl rfl hb1929 (by cases p0.Ops <;> rfl) rfl rfl rfl (fun p h => ⟨h, fun e => by cases e⟩) ?_
          refine oQ (.int .i64 (Sl.len p0.Ops)) (len_sl (f := T38.enc) rfl rfl rfl rfl) ?_
          refine oP (.bool (decide ((Sl.len p0.Ops : Int) ≤ 8))) ?_
          refine oP (.bool (decide ((Sl.len p0.Ops : Int) ≤ 8))) ?_
          refine oA (.bool (decide ((Sl.len p0.Ops : Int) ≤ 8))) ?_
          refine O_nil ?_
          refine keep_to [(1, .ptr id1930 0), (3, .bool (decide ((Sl.len p0.Ops : Int) ≤ 8)))] [] rfl rfl ?_
          obtain rfl := Option.some.inj h1936
          exact ⟨rfl, rfl, rfl, hk1934, hb1929⟩
         ·replace h1936 := ocond_f h1936 hg1944
          refine O_move (sl' := []) (.bool false) rfl (congrArg (fun b => some (AV.bool b)) hg1944) rfl rfl rfl ?_
          refine O_skip rfl rfl ?_
          refine O_skip rfl rfl ?_
          refine O_skip rfl rfl ?_
          refine O_skip rfl rfl ?_
          refine oP (.bool false) ?_
          refine oA (.bool false) ?_
          refine O_nil ?_
          refine keep_to [(1, .ptr id1930 0), (3, .bool false)] [] rfl rfl ?_
          obtain rfl := Option.some.inj h1936
          exact ⟨rfl, rfl, rfl, hk1934, hb1929⟩
        ·replace h1936 := ocond_f h1936 hg1943
         refine O_move (sl' := []) (.bool false) rfl (congrArg (fun b => some (AV.bool b)) hg1943) rfl rfl rfl ?_
         refine O_skip rfl rfl ?_
         refine O_skip rfl rfl ?_
         refine O_skip rfl rfl ?_
         refine oP (.bool false) ?_
         refine oM (.bool false) ?_
         refine O_skip rfl rfl ?_
         refine O_skip rfl rfl ?_
         refine O_skip rfl rfl ?_
         refine O_skip rfl rfl ?_
         refine oP (.bool false) ?_
         refine oA (.bool false) ?_
         refine O_nil ?_
         refine keep_to [(1, .ptr id1930 0), (3, .bool false)] [] rfl rfl ?_
         obtain rfl := Option.some.inj h1936
         exact ⟨rfl, rfl, rfl, hk1934, hb1929⟩
       ·replace h1936 := ocond_f h1936 hg1942
        refine O_move (sl' := []) (.bool false) rfl (congrArg (fun b => some (AV.bool b)) hg1942) rfl rfl rfl ?_
        refine O_skip rfl rfl ?_
        refine O_skip rfl rfl ?_
        refine O_skip rfl rfl ?_
        refine oP (.bool false) ?_
        refine oM (.bool false) ?_
        refine O_skip rfl rfl ?_
        refine O_skip rfl rfl ?_
        refine O_skip rfl rfl ?_
        refine oP (.bool false) ?_
        refine oM (.bool false) ?_
        refine O_skip rfl rfl ?_
        refine O_skip rfl rfl ?_
        refine O_skip rfl rfl ?_
        refine O_skip rfl rfl ?_
        refine oP (.bool false) ?_
        refine oA (.bool false) ?_
        refine O_nil ?_
        refine keep_to [(1, .ptr id1930 0), (3, .bool false)] [] rfl rfl ?_
        obtain rfl := Option.some.inj h1936
        exact ⟨rfl, rfl, rfl, hk1934, hb1929⟩
      ·replace h1936 := ocond_f h1936 hg1941
       refine O_move (sl' := []) (.bool false) rfl (congrArg (fun b => some (AV.bool b)) hg1941) rfl rfl rfl ?_
       refine O_skip rfl rfl ?_
       refine O_skip rfl rfl ?_
       refine O_skip rfl rfl ?_
       refine oP (.bool false) ?_
       refine oM (.bool false) ?_
       refine O_skip rfl rfl ?_
       refine O_skip rfl rfl ?_
       refine O_skip rfl rfl ?_
       refine oP (.bool false) ?_
       refine oM (.bool false) ?_
       refine O_skip rfl rfl ?_
       refine O_skip rfl rfl ?_
       refine O_skip rfl rfl ?_
       refine oP (.bool false) ?_
       refine oM (.bool false) ?_
       refine O_skip rfl rfl ?_
       refine O_skip rfl rfl ?_
       refine O_skip rfl rfl ?_
       refine O_skip rfl rfl ?_
       refine oP (.bool false) ?_
       refine oA (.bool false) ?_
       refine O_nil ?_
       refine keep_to [(1, .ptr id1930 0), (3, .bool false)] [] rfl rfl ?_
       obtain rfl := Option.some.inj h1936
       exact ⟨rfl, rfl, rfl, hk1934, hb1929⟩
     ·replace h1936 := ocond_f h1936 hg1940
      refine O_move (sl' := []) (.bool false) rfl (congrArg (fun b => some (AV.bool b)) hg1940) rfl rfl rfl ?_
      refine O_skip rfl rfl ?_
      refine O_skip rfl rfl ?_
      refine O_skip rfl rfl ?_
      refine oP (.bool false) ?_
      refine oM (.bool false) ?_
      refine O_skip rfl rfl ?_
      refine O_skip rfl rfl ?_
      refine O_skip rfl rfl ?_
      refine oP (.bool false) ?_
      refine oM (.bool false) ?_
      refine O_skip rfl rfl ?_
      refine O_skip rfl rfl ?_
      refine O_skip rfl rfl ?_
      refine oP (.bool false) ?_
      refine oM (.bool false) ?_
      refine O_skip rfl rfl ?_
      refine O_skip rfl rfl ?_
      refine O_skip rfl rfl ?_
      refine oP (.bool false) ?_
      refine oM (.bool false) ?_
      refine O_skip rfl rfl ?_
      refine O_skip rfl rfl ?_
      refine O_skip rfl rfl ?_
      refine O_skip rfl rfl ?_
      refine oP (.bool false) ?_
      refine oA (.bool false) ?_
      refine O_nil ?_
      refine keep_to [(1, .ptr id1930 0), (3, .bool false)] [] rfl rfl ?_
      obtain rfl := Option.some.inj h1936
      exact ⟨rfl, rfl, rfl, hk1934, hb1929⟩
    ·replace h1936 := ocond_f h1936 hg1939
     refine O_move (sl' := []) (.bool false) rfl (congrArg (fun b => some (AV.bool b)) hg1939) rfl rfl rfl ?_
     refine O_skip rfl rfl ?_
     refine O_skip rfl rfl ?_
     refine O_skip rfl rfl ?_
     refine oP (.bool false) ?_
     refine oM (.bool false) ?_
     refine O_skip rfl rfl ?_
     refine O_skip rfl rfl ?_
     refine O_skip rfl rfl ?_
     refine oP (.bool false) ?_
     refine oM (.bool false) ?_
     refine O_skip rfl rfl ?_
     refine O_skip rfl rfl ?_
     refine O_skip rfl rfl ?_
     refine oP (.bool false) ?_
     refine oM (.bool false) ?_
     refine O_skip rfl rfl ?_
     refine O_skip rfl rfl ?_
     refine O_skip rfl rfl ?_
     refine oP (.bool false) ?_
     refine oM (.bool false) ?_
     refine O_skip rfl rfl ?_
     refine O_skip rfl rfl ?_
     refine O_skip rfl rfl ?_
     refine oP (.bool false) ?_
     refine oM (.bool false) ?_
     refine O_skip rfl rfl ?_
     refine O_skip rfl rfl ?_
     refine O_skip rfl rfl ?_
     refine O_skip rfl rfl ?_
     refine oP (.bool false) ?_
     refine oA (.bool false) ?_
     refine O_nil ?_
     refine keep_to [(1, .ptr id1930 0), (3, .bool false)] [] rfl rfl ?_
     obtain rfl := Option.some.inj h1936
     exact ⟨rfl, rfl, rfl, hk1934, hb1929⟩
   ·replace h1936 := ocond_f h1936 hg1938
    refine O_move (sl' := []) (.bool false) rfl (congrArg (fun b => some (AV.bool b)) hg1938) rfl rfl rfl ?_
    refine O_skip rfl rfl ?_
    refine O_skip rfl rfl ?_
    refine O_skip rfl rfl ?_
    refine oP (.bool false) ?_
    refine oM (.bool false) ?_
    refine O_skip rfl rfl ?_
    refine O_skip rfl rfl ?_
    refine O_skip rfl rfl ?_
    refine oP (.bool false) ?_
    refine oM (.bool false) ?_
    refine O_skip rfl rfl ?_
    refine O_skip rfl rfl ?_
    refine O_skip rfl rfl ?_
    refine oP (.bool false) ?_
    refine oM (.bool false) ?_
    refine O_skip rfl rfl ?_
    refine O_skip rfl rfl ?_
    refine O_skip rfl rfl ?_
    refine oP (.bool false) ?_
    refine oM (.bool false) ?_
    refine O_skip rfl rfl ?_
    refine O_skip rfl rfl ?_
    refine O_skip rfl rfl ?_
    refine oP (.bool false) ?_
    refine oM (.bool false) ?_
    refine O_skip rfl rfl ?_
    refine O_skip rfl rfl ?_
    refine O_skip rfl rfl ?_
    refine oP (.bool false) ?_
    refine oM (.bool false) ?_
    refine O_skip rfl rfl ?_
    refine O_skip rfl rfl ?_
    refine O_skip rfl rfl ?_
    refine O_skip rfl rfl ?_
    refine oP (.bool false) ?_
    refine oA (.bool false) ?_
    refine O_nil ?_
    refine keep_to [(1, .ptr id1930 0), (3, .bool false)] [] rfl rfl ?_
    obtain rfl := Option.some.inj h1936
    exact ⟨rfl, rfl, rfl, hk1934, hb1929⟩
  ·replace h1936 := ocond_f h1936 hg1937
   refine O_move (sl' := []) (.bool false) rfl (congrArg (fun b => some (AV.bool b)) hg1937) rfl rfl rfl ?_
   refine O_skip rfl rfl ?_
   refine O_skip rfl rfl ?_
   refine O_skip rfl rfl ?_
   refine oP (.bool false) ?_
   refine oM (.bool false) ?_
   refine O_skip rfl rfl ?_
   refine O_skip rfl rfl ?_
   refine O_skip rfl rfl ?_
   refine oP (.bool false) ?_
   refine oM (.bool false) ?_
   refine O_skip rfl rfl ?_
   refine O_skip rfl rfl ?_
   refine O_skip rfl rfl ?_
   refine oP (.bool false) ?_
   refine oM (.bool false) ?_
   refine O_skip rfl rfl ?_
   refine O_skip rfl rfl ?_
   refine O_skip rfl rfl ?_
   refine oP (.bool false) ?_
   refine oM (.bool false) ?_
   refine O_skip rfl rfl ?_
   refine O_skip rfl rfl ?_
   refine O_skip rfl rfl ?_
   refine oP (.bool false) ?_
   refine oM (.bool false) ?_
   refine O_skip rfl rfl ?_
   refine O_skip rfl rfl ?_
   refine O_skip rfl rfl ?_
   refine oP (.bool false) ?_
   refine oM (.bool false) ?_
   refine O_skip rfl rfl ?_
   refine O_skip rfl rfl ?_
   refine O_skip rfl rfl ?_
   refine oP (.bool false) ?_
   refine oM (.bool false) ?_
   refine O_skip rfl rfl ?_
   refine O_skip rfl rfl ?_
   refine O_skip rfl rfl ?_
   refine O_skip rfl rfl ?_
   refine oP (.bool false) ?_
   refine oA (.bool false) ?_
   refine O_nil ?_
   refine keep_to [(1, .ptr id1930 0), (3, .bool false)] [] rfl rfl ?_
   obtain rfl := Option.some.inj h1936
   exact ⟨rfl, rfl, rfl, hk1934, hb1929⟩
 ·rintro _ H1945 _ _ ⟨rfl, rfl, rfl, hk1946, hb1947⟩
  refine C_seq ?_
  refine C_seq ?_
  refine C_reg ?_
  refine oP (.ptr id1930 4) ?_
  refine O_load (cl' := cl) (sl' := []) (Sl.enc 38 T38.enc p0.Ops) rfl rfl hb1947 (by cases p0.Ops <;> rfl) rfl rfl rfl (fun p h => ⟨h, fun e => by cases e⟩) ?_
  refine oQ (.int .i64 (Sl.len p0.Ops)) (len_sl (f := T38.enc) rfl rfl rfl rfl) ?_
  refine oC (.int .i64 0) ?_
  refine O_nil ?_
  refine keep_to [(1, .ptr id1930 0), (3, .bool v1935), (51, Sl.enc 38 T38.enc p0.Ops), (52, .int .i64 (Sl.len p0.Ops)), (53, .int .i64 0)] [] rfl rfl ?_
  refine C_block ?_
  obtain ⟨k1949, hk1950, h⟩ := jn_some h
  refine C_loopE [1, 3, 51, 52, 53] (fun n env' H' sl' cl' => ∃ (v3 : Bool), ∃ (v53 : Int), env' = [(1, .ptr id1930 0), (3, .bool v3), (51, Sl.enc 38 T38.enc p0.Ops), (52, .int .i64 (Sl.len p0.Ops)), (53, .int .i64 v53)] ∧ sl' = [] ∧ cl = cl' ∧ Kp [] H H' ∧ H'[id1930]? = some (some ⟨25, [.int .i64 p0.Groups, .int .i64 p0.Sources, .int .i64 p0.Bound, .int .i64 p0.Late, Sl.enc 38 T38.enc p0.Ops]⟩) ∧ s15_l0 N p0 k1949 n v3 v53 = some r) 0 [3] (fun env' H' sl' cl' => ∃ (e1948 : Bool), env' = [(3, .bool e1948)] ∧ sl' = [] ∧ cl = cl' ∧ Kp [] H H' ∧ H'[id1930]? = some (some ⟨25, [.int .i64 p0.Groups, .int .i64 p0.Sources, .int .i64 p0.Bound, .int .i64 p0.Late, Sl.enc 38 T38.enc p0.Ops]⟩) ∧ k1949 e1948 = some r) N ⟨v1935, 0, rfl, rfl, rfl, hk1946, hb1947, h⟩ ?_ ?_
  ·rintro n _ H1951 _ _ ⟨v3, v53, rfl, rfl, rfl, hk1952, hb1953, h⟩
   cases n with
   | zero => rw [s15_l0] at h; cases h
   | succ n =>
   rw [s15_l0] at h
   refine C_seq ?_
   refine C_reg ?_
   refine oP (.bool (decide ((v53 : Int) < Sl.len p0.Ops))) ?_
   refine O_nil ?_
   refine keep_to [(1, .ptr id1930 0), (3, .bool v3), (51, Sl.enc 38 T38.enc p0.Ops), (52, .int .i64 (Sl.len p0.Ops)), (53, .int .i64 v53), (54, .bool (decide ((v53 : Int) < Sl.len p0.Ops)))] [] rfl rfl ?_
   refine C_seq ?_
   refine C_cond (decide ((v53 : Int) < Sl.len p0.Ops)) rfl (fun hc1954 => ?_) (fun hc1954 => ?_)
   ·replace h := ocond_t h hc1954
    refine C_skip ?_
    refine C_seq ?_
    refine C_block ?_
    refine C_seq ?_
    refine C_reg ?_
    refine oM (.int .i64 v53) ?_
    obtain ⟨o1955, hx1956, h⟩ := obind_some h
    refine oQ (.ept [.str o1955.Name, .int .i64 o1955.Agg, .int .i64 o1955.Windows_Kind, .int .i64 o1955.Windows_Size, .int .i64 o1955.Windows_Slide] 0) (idx_sl (f := T38.enc) rfl rfl rfl hx1956) ?_
    refine oE (.agg [.str o1955.Name, .int .i64 o1955.Agg, .int .i64 o1955.Windows_Kind, .int .i64 o1955.Windows_Size, .int .i64 o1955.Windows_Slide]) ?_
    refine oZ [.str [], .int .i64 0, .int .i64 0, .int .i64 0, .int .i64 0] fun id1959 H1957 hi1960 hH1961 => ?_
    have hb1958 : H1957[id1959]? = some (some ⟨38, [.str [], .int .i64 0, .int .i64 0, .int .i64 0, .int .i64 0]⟩) := getL hi1960 hH1961
    have ho1962 := Own.mk2 hf hk1952 (Nat.le_of_eq hi1960)
    have hn1963 := ne_of_lt hb1953 (Nat.le_of_eq hi1960)
    have hb1964 := getA hH1961 hb1953
    have hk1965 := kpA hH1961 hk1952
    refine oA (.int .i64 v53) ?_
    refine O_store (sl' := []) (cl' := cl) (.agg [.str o1955.Name, .int .i64 o1955.Agg, .int .i64 o1955.Windows_Kind, .int .i64 o1955.Windows_Size, .int .i64 o1955.Windows_Slide]) rfl rfl rfl ho1962.lo hb1958 rfl rfl (fun q h => by cases h) (fun i o h => .inr ⟨h, fun e => ho1962.cl i o h e.1⟩) fun H1966 hH1967 => ?_
    have hb1968 : H1966[id1959]? = some (some ⟨38, [.str o1955.Name, .int .i64 o1955.Agg, .int .i64 o1955.Windows_Kind, .int .i64 o1955.Windows_Size, .int .i64 o1955.Windows_Slide]⟩) := getW hH1967 hb1958
    have hb1969 := getS hH1967 hn1963 hb1964
    have hk1970 := kpS hH1967 ho1962.ge hk1965
    refine O_nil ?_
    refine keep_to [(1, .ptr id1930 0), (3, .bool v3), (4, .int .i64 v53), (5, .ptr id1959 0), (51, Sl.enc 38 T38.enc p0.Ops), (52, .int .i64 (Sl.len p0.Ops)), (53, .int .i64 v53)] [] rfl rfl ?_
    refine C_reg ?_
    refine oM (.bool v3) ?_
    rcases Bool.eq_false_or_eq_true (v3) with hg1971 | hg1971
    ·replace h := ocond_t h hg1971
     refine O_move (sl' := []) (.bool true) rfl (congrArg (fun b => some (AV.bool b)) hg1971) rfl rfl rfl ?_
     refine oL (.agg [.str o1955.Name, .int .i64 o1955.Agg, .int .i64 o1955.Windows_Kind, .int .i64 o1955.Windows_Size, .int .i64 o1955.Windows_Slide]) hb1968 ?_
     obtain ⟨x1975, hx1976, h⟩ := obind_some h
     refine oK [.agg [.str o1955.Name, .int .i64 o1955.Agg, .int .i64 o1955.Windows_Kind, .int .i64 o1955.Windows_Size, .int .i64 o1955.Windows_Slide]] (w31 N (lo := lo) o1955 (hf.kp hk1970) hx1976) ?_
     rintro _ H1972 _ ⟨rfl, hk1973, rfl⟩
     have hb1977 := hk1973.get0 hb1969
     have hb1978 := hk1973.get0 hb1968
     have hk1979 := hk1970.trans hk1973
     refine oP (.bool x1975) ?_
     rcases Bool.eq_false_or_eq_true (x1975) with hg1980 | hg1980
     ·replace h := ocond_t h hg1980
      refine O_move (sl' := []) (.bool true) rfl (congrArg (fun b => some (AV.bool b)) hg1980) rfl rfl rfl ?_
      refine oP (.ptr id1930 4) ?_
      refine O_load (cl' := cl) (sl' := []) (Sl.enc 38 T38.enc p0.Ops) rfl rfl hb1977 (by cases p0.Ops <;> rfl) rfl rfl rfl (fun p h => ⟨h, fun e => by cases e⟩) ?_
      refine oM (.int .i64 v53) ?_
      obtain ⟨l1981, hx1982, h⟩ := obind_some h
      refine oQ (Sl.enc 38 T38.enc l1981) (cut_sl (l := none) (h := (some v53)) (m := none) (f := T38.enc) rfl rfl rfl rfl rfl rfl rfl hx1982) ?_
      refine oP (.fn 33 [.ptr id1959 0]) ?_
      obtain ⟨x1986, hx1987, h⟩ := obind_some h
      refine oK [Sl.enc 38 T38.enc l1981, .fn 33 [.ptr id1959 0]] (w32_0 N (lo := lo) l1981 o1955.Name o1955.Agg o1955.Windows_Kind o1955.Windows_Size o1955.Windows_Slide hb1978 (hf.kp hk1979) hx1987) ?_
      rintro _ H1983 _ ⟨rfl, hk1984, rfl⟩
      have hb1988 := hk1984.get0 hb1977
      have hb1989 := hk1984.get0 hb1978
      have hk1990 := hk1979.trans hk1984
      refine oP (.bool (!x1986)) ?_
      refine oP (.bool (!x1986)) ?_
      refine oA (.bool (!x1986)) ?_
      refine O_nil ?_
      refine keep_to [(1, .ptr id1930 0), (3, .bool (!x1986)), (51, Sl.enc 38 T38.enc p0.Ops), (52, .int .i64 (Sl.len p0.Ops)), (53, .int .i64 v53)] [] rfl rfl ?_
      refine C_reg ?_
      refine oP (.int .i64 (IntKind.wrap .i64 (v53 + 1))) ?_
      refine oM (.int .i64 (IntKind.wrap .i64 (v53 + 1))) ?_
      refine O_nil ?_
      refine keep_to [(1, .ptr id1930 0), (3, .bool (!x1986)), (51, Sl.enc 38 T38.enc p0.Ops), (52, .int .i64 (Sl.len p0.Ops)), (53, .int .i64 (IntKind.wrap .i64 (v53 + 1)))] [] rfl rfl ?_
      exact ⟨n, Nat.lt_succ_self n, (!x1986), (IntKind.wrap .i64 (v53 + 1)), rfl, rfl, rfl, hk1990, hb1988, h⟩
     ·replace h := ocond_f h hg1980
      refine O_move (sl' := []) (.bool false) rfl (congrArg (fun b => some (AV.bool b)) hg1980) rfl rfl rfl ?_
      refine O_skip rfl rfl ?_
      refine O_skip rfl rfl ?_
      refine O_skip rfl rfl ?_
      refine O_skip rfl rfl ?_
      refine O_skip rfl rfl ?_
      refine O_skip rfl rfl ?_
      refine O_skip rfl rfl ?_
      refine oP (.bool false) ?_
      refine oA (.bool false) ?_
      refine O_nil ?_
      refine keep_to [(1, .ptr id1930 0), (3, .bool false), (51, Sl.enc 38 T38.enc p0.Ops), (52, .int .i64 (Sl.len p0.Ops)), (53, .int .i64 v53)] [] rfl rfl ?_
      refine C_reg ?_
      refine oP (.int .i64 (IntKind.wrap .i64 (v53 + 1))) ?_
      refine oM (.int .i64 (IntKind.wrap .i64 (v53 + 1))) ?_
      refine O_nil ?_
      refine keep_to [(1, .ptr id1930 0), (3, .bool false), (51, Sl.enc 38 T38.enc p0.Ops), (52, .int .i64 (Sl.len p0.Ops)), (53, .int .i64 (IntKind.wrap .i64 (v53 + 1)))] [] rfl rfl ?_
      exact ⟨n, Nat.lt_succ_self n, false, (IntKind.wrap .i64 (v53 + 1)), rfl, rfl, rfl, hk1979, hb1977, h⟩
    ·replace h := ocond_f h hg1971
     refine O_move (sl' := []) (.bool false) rfl (congrArg (fun b => some (AV.bool b)) hg1971) rfl rfl rfl ?_
     refine O_skip rfl rfl ?_
     refine O_skip rfl rfl ?_
     refine oP (.bool false) ?_
     refine oM (.bool false) ?_
     refine O_skip rfl rfl ?_
     refine O_skip rfl rfl ?_
     refine O_skip rfl rfl ?_
     refine O_skip rfl rfl ?_
     refine O_skip rfl rfl ?_
     refine O_skip rfl rfl ?_
     refine O_skip rfl rfl ?_
     refine oP (.bool false) ?_
     refine oA (.bool false) ?_
     refine O_nil ?_
     refine keep_to [(1, .ptr id1930 0), (3, .bool false), (51, Sl.enc 38 T38.enc p0.Ops), (52, .int .i64 (Sl.len p0.Ops)), (53, .int .i64 v53)] [] rfl rfl ?_
     refine C_reg ?_
     refine oP (.int .i64 (IntKind.wrap .i64 (v53 + 1))) ?_
     refine oM (.int .i64 (IntKind.wrap .i64 (v53 + 1))) ?_
     refine O_nil ?_
     refine keep_to [(1, .ptr id1930 0), (3, .bool false), (51, Sl.enc 38 T38.enc p0.Ops), (52, .int .i64 (Sl.len p0.Ops)), (53, .int .i64 (IntKind.wrap .i64 (v53 + 1)))] [] rfl rfl ?_
     exact ⟨n, Nat.lt_succ_self n, false, (IntKind.wrap .i64 (v53 + 1)), rfl, rfl, rfl, hk1970, hb1969, h⟩
   ·replace h := ocond_f h hc1954
    refine C_exit ?_
    exact ⟨_, rfl, rfl, rfl, hk1952, hb1953, h⟩
  ·rintro _ H1991 _ _ ⟨e1948, rfl, rfl, rfl, hk1992, hb1993, h⟩
   subst hk1950
   refine C_seq ?_
   refine C_seq ?_
   refine C_reg ?_
   refine oM (.bool e1948) ?_
   refine oP (.bool (!e1948)) ?_
   refine O_nil ?_
   refine keep_to [(74, .bool (!e1948))] [] rfl rfl ?_
   refine C_cond (!e1948) rfl (fun hc1994 => ?_) (fun hc1994 => ?_)
   ·replace h := ocond_t h hc1994
    refine C_seq ?_
    refine C_reg ?_
    refine oB (.int .i64 2) ?_
    refine O_nil ?_
    refine keep_to [(2, .int .i64 2)] [] rfl rfl ?_
    refine C_ret ?_
    obtain rfl := Option.some.inj h
    exact ⟨_, rfl, rfl, hk1992, rfl⟩
   ·replace h := ocond_f h hc1994
    refine C_skip ?_
    refine C_seq ?_
    refine C_reg ?_
    refine oB (.int .i64 0) ?_
    refine O_nil ?_
    refine keep_to [(2, .int .i64 0)] [] rfl rfl ?_
    refine C_ret ?_
    obtain rfl := Option.some.inj h
    exact ⟨_, rfl, rfl, hk1992, rfl⟩
end Go.Proofs.YtecdcnacjlcjoaaDoor.Job

/- Job: walks (GJ). Printed by a small program. -/
namespace Go.Proofs.YtecdcnacjlcjoaaDoor.Job
open Am
set_option linter.unusedVariables false
set_option linter.unusedSimpArgs false
end Go.Proofs.YtecdcnacjlcjoaaDoor.Job

/- Job: walks (GK). Printed by a small program. -/
namespace Go.Proofs.YtecdcnacjlcjoaaDoor.Job
open Am
set_option linter.unusedVariables false
set_option linter.unusedSimpArgs false
set_option maxRecDepth 8000 in
set_option maxHeartbeats 4000000 in
theorem w26 (N : Nat) {lo : Nat} {cl : Cl} {H : Hp} (hf : Fit lo cl H) : CallsR Tryd.prog (Kj lo) 26 [] H (cl) fun x H' cl' => x = .tup [.agg [.str [], .str [99, 111, 117, 110, 116], .str [115, 117, 109], .str [109, 105, 110], .str [109, 97, 120], .str [108, 97, 115, 116], .str [108, 105, 115, 116], .str [100, 105, 115, 116, 105, 110, 99, 116], .str [115, 112, 105, 110]], .agg [.str [], .str [116, 117, 109, 98, 108, 105, 110, 103], .str [115, 108, 105, 100, 105, 110, 103], .str [115, 101, 115, 115, 105, 111, 110]]] ∧ Kp [] H H' ∧ cl = cl' := by
 refine calls_by Tryd.func26 rfl rfl rfl ?_
 have hk0 : Kp [] H H := Kp.refl H
 refine C_seq ?_
 refine C_reg ?_
 refine oZ [.str [], .str [], .str [], .str [], .str [], .str [], .str [], .str [], .str []] fun id2073 H2071 hi2074 hH2075 => ?_
 have hb2072 : H2071[id2073]? = some (some ⟨55, [.str [], .str [], .str [], .str [], .str [], .str [], .str [], .str [], .str []]⟩) := getL hi2074 hH2075
 have ho2076 := Own.mk2 hf hk0 (Nat.le_of_eq hi2074)
 have hk2077 := kpA hH2075 hk0
 refine oZ [.str [], .str [], .str [], .str []] fun id2080 H2078 hi2081 hH2082 => ?_
 have hb2079 : H2078[id2080]? = some (some ⟨56, [.str [], .str [], .str [], .str []]⟩) := getL hi2081 hH2082
 have ho2083 := Own.mk2 hf hk2077 (Nat.le_of_eq hi2081)
 have hn2084 := ne_of_lt hb2072 (Nat.le_of_eq hi2081)
 have hb2085 := getA hH2082 hb2072
 have hk2086 := kpA hH2082 hk2077
 refine O_nil ?_
 refine keep_to [(0, .ptr id2073 0), (1, .ptr id2080 0)] [] rfl rfl ?_
 refine C_seq ?_
 refine C_reg ?_
 refine oP (.agg [.str [], .str [99, 111, 117, 110, 116], .str [115, 117, 109], .str [109, 105, 110], .str [109, 97, 120], .str [108, 97, 115, 116], .str [108, 105, 115, 116], .str [100, 105, 115, 116, 105, 110, 99, 116], .str [115, 112, 105, 110]]) ?_
 refine oP (.agg [.str [], .str [116, 117, 109, 98, 108, 105, 110, 103], .str [115, 108, 105, 100, 105, 110, 103], .str [115, 101, 115, 115, 105, 111, 110]]) ?_
 refine O_store (sl' := []) (cl' := cl) (.agg [.str [], .str [99, 111, 117, 110, 116], .str [115, 117, 109], .str [109, 105, 110], .str [109, 97, 120], .str [108, 97, 115, 116], .str [108, 105, 115, 116], .str [100, 105, 115, 116, 105, 110, 99, 116], .str [115, 112, 105, 110]]) rfl rfl rfl ho2076.lo hb2085 rfl rfl (fun q h => by cases h) (fun i o h => .inr ⟨h, fun e => ho2076.cl i o h e.1⟩) fun H2087 hH2088 => ?_
 have hb2089 : H2087[id2073]? = some (some ⟨55, [.str [], .str [99, 111, 117, 110, 116], .str [115, 117, 109], .str [109, 105, 110], .str [109, 97, 120], .str [108, 97, 115, 116], .str [108, 105, 115, 116], .str [100, 105, 115, 116, 105, 110, 99, 116], .str [115, 112, 105, 110]]⟩) := getW hH2088 hb2085
 have hb2090 := getS hH2088 (fun e => hn2084 e.symm) hb2079
 have hk2091 := kpS hH2088 ho2076.ge hk2086
 refine O_store (sl' := []) (cl' := cl) (.agg [.str [], .str [116, 117, 109, 98, 108, 105, 110, 103], .str [115, 108, 105, 100, 105, 110, 103], .str [115, 101, 115, 115, 105, 111, 110]]) rfl rfl rfl ho2083.lo hb2090 rfl rfl (fun q h => by cases h) (fun i o h => .inr ⟨h, fun e => ho2083.cl i o h e.1⟩) fun H2092 hH2093 => ?_
 have hb2094 : H2092[id2080]? = some (some ⟨56, [.str [], .str [116, 117, 109, 98, 108, 105, 110, 103], .str [115, 108, 105, 100, 105, 110, 103], .str [115, 101, 115, 115, 105, 111, 110]]⟩) := getW hH2093 hb2090
 have hb2095 := getS hH2093 hn2084 hb2089
 have hk2096 := kpS hH2093 ho2083.ge hk2091
 refine O_nil ?_
 refine keep_to [(0, .ptr id2073 0), (1, .ptr id2080 0)] [] rfl rfl ?_
 refine C_ret ?_
 exact ⟨_, (ress_two (resM_cons (resE_cell rfl hb2095 rfl) (resM_cons (resE_cell rfl hb2094 rfl) resM_nil))), rfl, hk2096, rfl⟩
end Go.Proofs.YtecdcnacjlcjoaaDoor.Job

/- Job: walks (GE). Printed by a small program. -/
namespace Go.Proofs.YtecdcnacjlcjoaaDoor.Job
open Am
set_option linter.unusedVariables false
set_option linter.unusedSimpArgs false
/- freshet/job.Text$1 -/
def s27 (N : Nat) (p0 : Int) : Option Bs :=
Option.bind (fmtIS p0 10) fun x2162 =>
Option.bind (sadd [32] x2162) fun s2165 =>
some s2165
set_option maxRecDepth 8000 in
set_option maxHeartbeats 4000000 in
theorem w27 (N : Nat) {lo : Nat} {cl : Cl} {H : Hp} (p0 : Int) (hf : Fit lo cl H) {r : Bs} (h : s27 N p0 = some r) : CallsR Tryd.prog (Kj lo) 27 [.int .i64 p0] H (cl) fun x H' cl' => x = .str r ∧ Kp [] H H' ∧ cl = cl' := by
 refine calls_by Tryd.func27 rfl rfl rfl ?_
 unfold s27 at h
 have hk0 : Kp [] H H := Kp.refl H
 refine C_seq ?_
 refine C_reg ?_
 refine oB (.str []) ?_
 refine O_nil ?_
 refine keep_to [(0, .int .i64 p0)] [] rfl rfl ?_
 refine C_seq ?_
 refine C_reg ?_
 refine oM (.int .i64 p0) ?_
 obtain ⟨x2162, hx2163, h⟩ := obind_some h
 refine oK [.int .i64 p0, .int .i64 10] (wFmtI (lo := lo) p0 10 hx2163) ?_
 rintro _ H2159 _ ⟨rfl, hk2160, rfl⟩
 have hk2164 := hk0.trans hk2160
 obtain ⟨s2165, hx2166, h⟩ := obind_some h
 refine oQ (.str s2165) (add_strO rfl rfl hx2166) ?_
 refine oA (.str s2165) ?_
 refine O_nil ?_
 refine keep_to [(2, .str s2165)] [] rfl rfl ?_
 refine C_ret ?_
 obtain rfl := Option.some.inj h
 exact ⟨_, rfl, rfl, hk2164, rfl⟩
set_option linter.unusedVariables false in
def s13_l0 (N : Nat) (p0 : T25) (k2406 : Bs → Option (Bs × Int)) : Nat → Bs → Int → Option (Bs × Int)
  | 0, _, _ => none
  | n + 1, v8, v47 => (
cond (decide ((v47 : Int) < Sl.len p0.Ops))
 (Option.bind (Sl.get p0.Ops v47) fun o2413 =>
Option.bind (sadd [111, 112, 32] o2413.Name) fun s2434 =>
Option.bind (sadd s2434 [32]) fun s2436 =>
Option.bind (lat ([[], [99, 111, 117, 110, 116], [115, 117, 109], [109, 105, 110], [109, 97, 120], [108, 97, 115, 116], [108, 105, 115, 116], [100, 105, 115, 116, 105, 110, 99, 116], [115, 112, 105, 110]] : List Bs) o2413.Agg) fun c2438 =>
Option.bind (sadd s2436 c2438) fun s2440 =>
Option.bind (sadd s2440 [32]) fun s2442 =>
Option.bind (lat ([[], [116, 117, 109, 98, 108, 105, 110, 103], [115, 108, 105, 100, 105, 110, 103], [115, 101, 115, 115, 105, 111, 110]] : List Bs) o2413.Windows_Kind) fun c2444 =>
Option.bind (sadd s2442 c2444) fun s2446 =>
Option.bind (s27 N o2413.Windows_Size) fun x2451 =>
Option.bind (sadd s2446 x2451) fun s2457 =>
Option.bind (sadd v8 s2457) fun s2459 =>
Option.bind (cond ((o2413.Windows_Kind : Int) == 2)
 (Option.bind (s27 N o2413.Windows_Slide) fun x2467 =>
Option.bind (sadd s2459 x2467) fun s2473 =>
some s2473)
 (some s2459)) fun (v2461 : Bs) =>
Option.bind (sadd v2461 [10]) fun s2479 =>
s13_l0 N p0 k2406 n s2479 (IntKind.wrap .i64 (v47 + 1)))
 (k2406 v8))
/- freshet/job.Text -/
def s13 (N : Nat) (p0 : T25) : Option (Bs × Int) :=
Option.bind (s15 N p0) fun x2309 =>
cond ((x2309 : Int) != 0)
 (some ([], x2309))
 (Option.bind (s27 N p0.Groups) fun x2356 =>
Option.bind (sadd [103, 114, 111, 117, 112, 115] x2356) fun s2362 =>
Option.bind (sadd s2362 [10, 115, 111, 117, 114, 99, 101, 115]) fun s2364 =>
Option.bind (s27 N p0.Sources) fun x2369 =>
Option.bind (sadd s2364 x2369) fun s2375 =>
Option.bind (sadd s2375 [10, 98, 111, 117, 110, 100]) fun s2377 =>
Option.bind (s27 N p0.Bound) fun x2382 =>
Option.bind (sadd s2377 x2382) fun s2388 =>
Option.bind (sadd s2388 [10, 108, 97, 116, 101]) fun s2390 =>
Option.bind (s27 N p0.Late) fun x2395 =>
Option.bind (sadd s2390 x2395) fun s2401 =>
Option.bind (sadd s2401 [10]) fun s2403 =>
jn (fun (e2405 : Bs) =>
some (e2405, 0)) fun k2406 => s13_l0 N p0 k2406 N s2403 0)
set_option maxRecDepth 8000 in
set_option maxHeartbeats 4000000 in
theorem w13 (N : Nat) {lo : Nat} {cl : Cl} {H : Hp} (p0 : T25) (hf : Fit lo cl H) {r : (Bs × Int)} (h : s13 N p0 = some r) : CallsR Tryd.prog (Kj lo) 13 [.agg [.int .i64 p0.Groups, .int .i64 p0.Sources, .int .i64 p0.Bound, .int .i64 p0.Late, Sl.enc 38 T38.enc p0.Ops]] H (cl) fun x H' cl' => x = .tup [.str r.1, .int .i64 r.2] ∧ Kp [] H H' ∧ cl = cl' := by
 refine calls_by Tryd.func13 rfl rfl rfl ?_
 unfold s13 at h
 have hk0 : Kp [] H H := Kp.refl H
 refine C_seq ?_
 refine C_reg ?_
 refine oN (.agg [.int .i64 p0.Groups, .int .i64 p0.Sources, .int .i64 p0.Bound, .int .i64 p0.Late, Sl.enc 38 T38.enc p0.Ops]) fun id2301 H2299 hi2302 hH2303 => ?_
 have hb2300 : H2299[id2301]? = some (some ⟨25, [.int .i64 p0.Groups, .int .i64 p0.Sources, .int .i64 p0.Bound, .int .i64 p0.Late, Sl.enc 38 T38.enc p0.Ops]⟩) := getL hi2302 hH2303
 have ho2304 := Own.mk2 hf hk0 (Nat.le_of_eq hi2302)
 have hk2305 := kpA hH2303 hk0
 refine oB (.str []) ?_
 refine oB (.int .i64 0) ?_
 refine O_nil ?_
 refine keep_to [(1, .ptr id2301 0)] [] rfl rfl ?_
 refine C_seq ?_
 refine C_seq ?_
 refine C_reg ?_
 refine oL (.agg [.int .i64 p0.Groups, .int .i64 p0.Sources, .int .i64 p0.Bound, .int .i64 p0.Late, Sl.enc 38 T38.enc p0.Ops]) hb2300 ?_
 obtain ⟨x2309, hx2310, h⟩ := obind_some h
 refine oK [.agg [.int .i64 p0.Groups, .int .i64 p0.Sources, .int .i64 p0.Bound, .int .i64 p0.Late, Sl.enc 38 T38.enc p0.Ops]] (w15 N (lo := lo) p0 (hf.kp hk2305) hx2310) ?_
 rintro _ H2306 _ ⟨rfl, hk2307, rfl⟩
 have hb2311 := hk2307.get0 hb2300
 have hk2312 := hk2305.trans hk2307
 refine oA (.int .i64 x2309) ?_
 refine O_nil ?_
 refine keep_to [(1, .ptr id2301 0), (4, .int .i64 x2309)] [] rfl rfl ?_
 refine C_seq ?_
 refine C_reg ?_
 refine oM (.int .i64 x2309) ?_
 refine oP (.bool ((x2309 : Int) != 0)) ?_
 refine O_nil ?_
 refine keep_to [(1, .ptr id2301 0), (4, .int .i64 x2309), (14, .bool ((x2309 : Int) != 0))] [] rfl rfl ?_
 refine C_cond ((x2309 : Int) != 0) rfl (fun hc2313 => ?_) (fun hc2313 => ?_)
 ·replace h := ocond_t h hc2313
  refine C_seq ?_
  refine C_reg ?_
  refine oM (.int .i64 x2309) ?_
  refine oB (.str []) ?_
  refine oA (.int .i64 x2309) ?_
  refine O_nil ?_
  refine keep_to [(2, .str []), (3, .int .i64 x2309)] [] rfl rfl ?_
  refine C_ret ?_
  obtain rfl := Option.some.inj h
  exact ⟨_, rfl, rfl, hk2312, rfl⟩
 ·replace h := ocond_f h hc2313
  refine C_skip ?_
  refine C_seq ?_
  refine C_reg ?_
  refine oK [] (w26 N (lo := lo) (hf.kp hk2312)) ?_
  rintro _ H2314 _ ⟨rfl, hk2315, rfl⟩
  have hb2317 := hk2315.get0 hb2311
  have hk2318 := hk2312.trans hk2315
  refine oM (.tup [.agg [.str [], .str [99, 111, 117, 110, 116], .str [115, 117, 109], .str [109, 105, 110], .str [109, 97, 120], .str [108, 97, 115, 116], .str [108, 105, 115, 116], .str [100, 105, 115, 116, 105, 110, 99, 116], .str [115, 112, 105, 110]], .agg [.str [], .str [116, 117, 109, 98, 108, 105, 110, 103], .str [115, 108, 105, 100, 105, 110, 103], .str [115, 101, 115, 115, 105, 111, 110]]]) ?_
  refine oP (.agg [.str [], .str [99, 111, 117, 110, 116], .str [115, 117, 109], .str [109, 105, 110], .str [109, 97, 120], .str [108, 97, 115, 116], .str [108, 105, 115, 116], .str [100, 105, 115, 116, 105, 110, 99, 116], .str [115, 112, 105, 110]]) ?_
  refine oP (.agg [.str [], .str [116, 117, 109, 98, 108, 105, 110, 103], .str [115, 108, 105, 100, 105, 110, 103], .str [115, 101, 115, 115, 105, 111, 110]]) ?_
  refine oZ [.str [], .str [], .str [], .str [], .str [], .str [], .str [], .str [], .str []] fun id2321 H2319 hi2322 hH2323 => ?_
  have hb2320 : H2319[id2321]? = some (some ⟨55, [.str [], .str [], .str [], .str [], .str [], .str [], .str [], .str [], .str []]⟩) := getL hi2322 hH2323
  have ho2324 := Own.mk2 hf hk2318 (Nat.le_of_eq hi2322)
  have hn2325 := ne_of_lt hb2317 (Nat.le_of_eq hi2322)
  have hb2326 := getA hH2323 hb2317
  have hk2327 := kpA hH2323 hk2318
  refine oZ [.str [], .str [], .str [], .str []] fun id2330 H2328 hi2331 hH2332 => ?_
  have hb2329 : H2328[id2330]? = some (some ⟨56, [.str [], .str [], .str [], .str []]⟩) := getL hi2331 hH2332
  have ho2333 := Own.mk2 hf hk2327 (Nat.le_of_eq hi2331)
  have hn2334 := ne_of_lt hb2326 (Nat.le_of_eq hi2331)
  have hn2335 := ne_of_lt hb2320 (Nat.le_of_eq hi2331)
  have hb2336 := getA hH2332 hb2326
  have hb2337 := getA hH2332 hb2320
  have hk2338 := kpA hH2332 hk2327
  refine O_store (sl' := []) (cl' := cl) (.agg [.str [], .str [99, 111, 117, 110, 116], .str [115, 117, 109], .str [109, 105, 110], .str [109, 97, 120], .str [108, 97, 115, 116], .str [108, 105, 115, 116], .str [100, 105, 115, 116, 105, 110, 99, 116], .str [115, 112, 105, 110]]) rfl rfl rfl ho2324.lo hb2337 rfl rfl (fun q h => by cases h) (fun i o h => .inr ⟨h, fun e => ho2324.cl i o h e.1⟩) fun H2339 hH2340 => ?_
  have hb2341 : H2339[id2321]? = some (some ⟨55, [.str [], .str [99, 111, 117, 110, 116], .str [115, 117, 109], .str [109, 105, 110], .str [109, 97, 120], .str [108, 97, 115, 116], .str [108, 105, 115, 116], .str [100, 105, 115, 116, 105, 110, 99, 116], .str [115, 112, 105, 110]]⟩) := getW hH2340 hb2337
  have hb2342 := getS hH2340 hn2325 hb2336
  have hb2343 := getS hH2340 (fun e => hn2335 e.symm) hb2329
  have hk2344 := kpS hH2340 ho2324.ge hk2338
  refine O_store (sl' := []) (cl' := cl) (.agg [.str [], .str [116, 117, 109, 98, 108, 105, 110, 103], .str [115, 108, 105, 100, 105, 110, 103], .str [115, 101, 115, 115, 105, 111, 110]]) rfl rfl rfl ho2333.lo hb2343 rfl rfl (fun q h => by cases h) (fun i o h => .inr ⟨h, fun e => ho2333.cl i o h e.1⟩) fun H2345 hH2346 => ?_
  have hb2347 : H2345[id2330]? = some (some ⟨56, [.str [], .str [116, 117, 109, 98, 108, 105, 110, 103], .str [115, 108, 105, 100, 105, 110, 103], .str [115, 101, 115, 115, 105, 111, 110]]⟩) := getW hH2346 hb2343
  have hb2348 := getS hH2346 hn2334 hb2342
  have hb2349 := getS hH2346 hn2335 hb2341
  have hk2350 := kpS hH2346 ho2333.ge hk2344
  refine O_nil ?_
  refine keep_to [(1, .ptr id2301 0), (5, .ptr id2321 0), (6, .ptr id2330 0)] [] rfl rfl ?_
  refine C_seq ?_
  refine C_reg ?_
  refine oB (.fn 27 []) ?_
  refine O_nil ?_
  refine keep_to [(1, .ptr id2301 0), (5, .ptr id2321 0), (6, .ptr id2330 0), (7, .fn 27 [])] [] rfl rfl ?_
  refine C_seq ?_
  refine C_draw0 none (m := true) rfl rfl rfl fun b2351 hb2352 => ?_
  refine oM (.fn 27 []) ?_
  refine oP (.ptr id2301 0) ?_
  refine oL (.int .i64 p0.Groups) hb2348 ?_
  obtain ⟨x2356, hx2357, h⟩ := obind_some h
  refine O_call (sl' := []) [.int .i64 p0.Groups] rfl rfl rfl rfl (above_of (hf.kp hk2350)) rfl rfl (w27 N (lo := (max lo H2345.length)) p0.Groups (hf.kp hk2350).up hx2357) ?_
  rintro _ H2353 _ ⟨rfl, hk2354, rfl⟩
  have hb2358 := hk2354.get0 hb2348
  have hb2359 := hk2354.get0 hb2349
  have hb2360 := hk2354.get0 hb2347
  have hk2361 := hk2350.trans hk2354
  obtain ⟨s2362, hx2363, h⟩ := obind_some h
  refine oQ (.str s2362) (add_strO rfl rfl hx2363) ?_
  obtain ⟨s2364, hx2365, h⟩ := obind_some h
  refine oQ (.str s2364) (add_strO rfl rfl hx2365) ?_
  refine oM (.fn 27 []) ?_
  refine oP (.ptr id2301 1) ?_
  refine oL (.int .i64 p0.Sources) hb2358 ?_
  obtain ⟨x2369, hx2370, h⟩ := obind_some h
  refine O_call (sl' := []) [.int .i64 p0.Sources] rfl rfl rfl rfl (above_of (hf.kp hk2361)) rfl rfl (w27 N (lo := (max lo H2353.length)) p0.Sources (hf.kp hk2361).up hx2370) ?_
  rintro _ H2366 _ ⟨rfl, hk2367, rfl⟩
  have hb2371 := hk2367.get0 hb2358
  have hb2372 := hk2367.get0 hb2359
  have hb2373 := hk2367.get0 hb2360
  have hk2374 := hk2361.trans hk2367
  obtain ⟨s2375, hx2376, h⟩ := obind_some h
  refine oQ (.str s2375) (add_strO rfl rfl hx2376) ?_
  obtain ⟨s2377, hx2378, h⟩ := obind_some h
  refine oQ (.str s2377) (add_strO rfl rfl hx2378) ?_
  refine oM (.fn 27 []) ?_
  refine oP (.ptr id2301 2) ?_
  refine oL (.int .i64 p0.Bound) hb2371 ?_
  obtain ⟨x2382, hx2383, h⟩ := obind_some h
  refine O_call (sl' := []) [.int .i64 p0.Bound] rfl rfl rfl rfl (above_of (hf.kp hk2374)) rfl rfl (w27 N (lo := (max lo H2366.length)) p0.Bound (hf.kp hk2374).up hx2383) ?_
  rintro _ H2379 _ ⟨rfl, hk2380, rfl⟩
  have hb2384 := hk2380.get0 hb2371
  have hb2385 := hk2380.get0 hb2372
  have hb2386 := hk2380.get0 hb2373
  have hk2387 := hk2374.trans hk2380
  obtain ⟨s2388, hx2389, h⟩ := obind_some h
  refine oQ (.str s2388) (add_strO rfl rfl hx2389) ?_
  obtain ⟨s2390, hx2391, h⟩ := obind_some h
  refine oQ (.str s2390) (add_strO rfl rfl hx2391) ?_
  refine oM (.fn 27 []) ?_
  refine oP (.ptr id2301 3) ?_
  refine oL (.int .i64 p0.Late) hb2384 ?_
  obtain ⟨x2395, hx2396, h⟩ := obind_some h
  refine O_call (sl' := []) [.int .i64 p0.Late] rfl rfl rfl rfl (above_of (hf.kp hk2387)) rfl rfl (w27 N (lo := (max lo H2379.length)) p0.Late (hf.kp hk2387).up hx2396) ?_
  rintro _ H2392 _ ⟨rfl, hk2393, rfl⟩
  have hb2397 := hk2393.get0 hb2384
  have hb2398 := hk2393.get0 hb2385
  have hb2399 := hk2393.get0 hb2386
  have hk2400 := hk2387.trans hk2393
  obtain ⟨s2401, hx2402, h⟩ := obind_some h
  refine oQ (.str s2401) (add_strO rfl rfl hx2402) ?_
  obtain ⟨s2403, hx2404, h⟩ := obind_some h
  refine oQ (.str s2403) (add_strO rfl rfl hx2404) ?_
  refine oA (.str s2403) ?_
  refine O_nil ?_
  refine keep_to [(1, .ptr id2301 0), (5, .ptr id2321 0), (6, .ptr id2330 0), (7, .fn 27 []), (8, .str s2403)] [] rfl rfl ?_
  refine C_seq ?_
  refine C_seq ?_
  refine C_reg ?_
  refine oP (.ptr id2301 4) ?_
  refine O_load (cl' := cl) (sl' := []) (Sl.enc 38 T38.enc p0.Ops) rfl rfl hb2397 (by cases p0.Ops <;> rfl) rfl rfl rfl (fun p h => ⟨h, fun e => by cases e⟩) ?_
  refine oQ (.int .i64 (Sl.len p0.Ops)) (len_sl (f := T38.enc) rfl rfl rfl rfl) ?_
  refine oC (.int .i64 0) ?_
  refine O_nil ?_
  refine keep_to [(5, .ptr id2321 0), (6, .ptr id2330 0), (7, .fn 27 []), (8, .str s2403), (45, Sl.enc 38 T38.enc p0.Ops), (46, .int .i64 (Sl.len p0.Ops)), (47, .int .i64 0)] [] rfl rfl ?_
  refine C_block ?_
  obtain ⟨k2406, hk2407, h⟩ := jn_some h
  refine C_loopE [5, 6, 7, 8, 45, 46, 47] (fun n env' H' sl' cl' => ∃ (v8 : Bs), ∃ (v47 : Int), env' = [(5, .ptr id2321 0), (6, .ptr id2330 0), (7, .fn 27 []), (8, .str v8), (45, Sl.enc 38 T38.enc p0.Ops), (46, .int .i64 (Sl.len p0.Ops)), (47, .int .i64 v47)] ∧ sl' = [] ∧ cl = cl' ∧ Kp [] H H' ∧ H'[id2321]? = some (some ⟨55, [.str [], .str [99, 111, 117, 110, 116], .str [115, 117, 109], .str [109, 105, 110], .str [109, 97, 120], .str [108, 97, 115, 116], .str [108, 105, 115, 116], .str [100, 105, 115, 116, 105, 110, 99, 116], .str [115, 112, 105, 110]]⟩) ∧ H'[id2330]? = some (some ⟨56, [.str [], .str [116, 117, 109, 98, 108, 105, 110, 103], .str [115, 108, 105, 100, 105, 110, 103], .str [115, 101, 115, 115, 105, 111, 110]]⟩) ∧ s13_l0 N p0 k2406 n v8 v47 = some r) 0 [8] (fun env' H' sl' cl' => ∃ (e2405 : Bs), env' = [(8, .str e2405)] ∧ sl' = [] ∧ cl = cl' ∧ Kp [] H H' ∧ H'[id2321]? = some (some ⟨55, [.str [], .str [99, 111, 117, 110, 116], .str [115, 117, 109], .str [109, 105, 110], .str [109, 97, 120], .str [108, 97, 115, 116], .str [108, 105, 115, 116], .str [100, 105, 115, 116, 105, 110, 99, 116], .str [115, 112, 105, 110]]⟩) ∧ H'[id2330]? = some (some ⟨56, [.str [], .str [116, 117, 109, 98, 108, 105, 110, 103], .str [115, 108, 105, 100, 105, 110, 103], .str [115, 101, 115, 115, 105, 111, 110]]⟩) ∧ k2406 e2405 = some r) N ⟨s2403, 0, rfl, rfl, rfl, hk2400, hb2398, hb2399, h⟩ ?_ ?_
  ·rintro n _ H2408 _ _ ⟨v8, v47, rfl, rfl, rfl, hk2409, hb2410, hb2411, h⟩
   cases n with
   | zero => rw [s13_l0] at h; cases h
   | succ n =>
   rw [s13_l0] at h
   refine C_seq ?_
   refine C_reg ?_
   refine oP (.bool (decide ((v47 : Int) < Sl.len p0.Ops))) ?_
   refine O_nil ?_
   refine keep_to [(5, .ptr id2321 0), (6, .ptr id2330 0), (7, .fn 27 []), (8, .str v8), (45, Sl.enc 38 T38.enc p0.Ops), (46, .int .i64 (Sl.len p0.Ops)), (47, .int .i64 v47), (48, .bool (decide ((v47 : Int) < Sl.len p0.Ops)))] [] rfl rfl ?_
   refine C_seq ?_
   refine C_cond (decide ((v47 : Int) < Sl.len p0.Ops)) rfl (fun hc2412 => ?_) (fun hc2412 => ?_)
   ·replace h := ocond_t h hc2412
    refine C_skip ?_
    refine C_seq ?_
    refine C_block ?_
    refine C_seq ?_
    refine C_reg ?_
    obtain ⟨o2413, hx2414, h⟩ := obind_some h
    refine oQ (.ept [.str o2413.Name, .int .i64 o2413.Agg, .int .i64 o2413.Windows_Kind, .int .i64 o2413.Windows_Size, .int .i64 o2413.Windows_Slide] 0) (idx_sl (f := T38.enc) rfl rfl rfl hx2414) ?_
    refine oE (.agg [.str o2413.Name, .int .i64 o2413.Agg, .int .i64 o2413.Windows_Kind, .int .i64 o2413.Windows_Size, .int .i64 o2413.Windows_Slide]) ?_
    refine oZ [.str [], .int .i64 0, .int .i64 0, .int .i64 0, .int .i64 0] fun id2417 H2415 hi2418 hH2419 => ?_
    have hb2416 : H2415[id2417]? = some (some ⟨38, [.str [], .int .i64 0, .int .i64 0, .int .i64 0, .int .i64 0]⟩) := getL hi2418 hH2419
    have ho2420 := Own.mk2 hf hk2409 (Nat.le_of_eq hi2418)
    have hn2421 := ne_of_lt hb2410 (Nat.le_of_eq hi2418)
    have hn2422 := ne_of_lt hb2411 (Nat.le_of_eq hi2418)
    have hb2423 := getA hH2419 hb2410
    have hb2424 := getA hH2419 hb2411
    have hk2425 := kpA hH2419 hk2409
    refine O_store (sl' := []) (cl' := cl) (.agg [.str o2413.Name, .int .i64 o2413.Agg, .int .i64 o2413.Windows_Kind, .int .i64 o2413.Windows_Size, .int .i64 o2413.Windows_Slide]) rfl rfl rfl ho2420.lo hb2416 rfl rfl (fun q h => by cases h) (fun i o h => .inr ⟨h, fun e => ho2420.cl i o h e.1⟩) fun H2426 hH2427 => ?_
    have hb2428 : H2426[id2417]? = some (some ⟨38, [.str o2413.Name, .int .i64 o2413.Agg, .int .i64 o2413.Windows_Kind, .int .i64 o2413.Windows_Size, .int .i64 o2413.Windows_Slide]⟩) := getW hH2427 hb2416
    have hb2429 := getS hH2427 hn2421 hb2423
    have hb2430 := getS hH2427 hn2422 hb2424
    have hk2431 := kpS hH2427 ho2420.ge hk2425
    refine O_nil ?_
    refine keep_to [(5, .ptr id2321 0), (6, .ptr id2330 0), (7, .fn 27 []), (8, .str v8), (10, .ptr id2417 0), (45, Sl.enc 38 T38.enc p0.Ops), (46, .int .i64 (Sl.len p0.Ops)), (47, .int .i64 v47)] [] rfl rfl ?_
    refine C_seq ?_
    refine C_draw0 none (m := true) rfl rfl rfl fun b2432 hb2433 => ?_
    refine oM (.str v8) ?_
    refine oP (.ptr id2417 0) ?_
    refine oL (.str o2413.Name) hb2428 ?_
    obtain ⟨s2434, hx2435, h⟩ := obind_some h
    refine oQ (.str s2434) (add_strO rfl rfl hx2435) ?_
    obtain ⟨s2436, hx2437, h⟩ := obind_some h
    refine oQ (.str s2436) (add_strO rfl rfl hx2437) ?_
    refine oP (.ptr id2417 1) ?_
    refine oL (.int .i64 o2413.Agg) hb2428 ?_
    obtain ⟨c2438, hx2439, h⟩ := obind_some h
    refine O_pure (sl' := []) (.ptr id2321 (0 + Int.toNat o2413.Agg)) rfl (idxp_arr (l := [[], [99, 111, 117, 110, 116], [115, 117, 109], [109, 105, 110], [109, 97, 120], [108, 97, 115, 116], [108, 105, 115, 116], [100, 105, 115, 116, 105, 110, 99, 116], [115, 112, 105, 110]]) rfl rfl rfl rfl rfl hx2439) rfl rfl ?_
    refine O_load (cl' := cl) (sl' := []) (.str c2438) rfl rfl hb2429 (rd_arr (l := [[], [99, 111, 117, 110, 116], [115, 117, 109], [109, 105, 110], [109, 97, 120], [108, 97, 115, 116], [108, 105, 115, 116], [100, 105, 115, 116, 105, 110, 99, 116], [115, 112, 105, 110]]) (f := AV.str) rfl rfl rfl rfl hx2439) rfl rfl rfl (fun p h => ⟨h, fun e => by cases e⟩) ?_
    obtain ⟨s2440, hx2441, h⟩ := obind_some h
    refine oQ (.str s2440) (add_strO rfl rfl hx2441) ?_
    obtain ⟨s2442, hx2443, h⟩ := obind_some h
    refine oQ (.str s2442) (add_strO rfl rfl hx2443) ?_
    refine oP (.ptr id2417 2) ?_
    refine oP (.ptr id2417 2) ?_
    refine oL (.int .i64 o2413.Windows_Kind) hb2428 ?_
    obtain ⟨c2444, hx2445, h⟩ := obind_some h
    refine O_pure (sl' := []) (.ptr id2330 (0 + Int.toNat o2413.Windows_Kind)) rfl (idxp_arr (l := [[], [116, 117, 109, 98, 108, 105, 110, 103], [115, 108, 105, 100, 105, 110, 103], [115, 101, 115, 115, 105, 111, 110]]) rfl rfl rfl rfl rfl hx2445) rfl rfl ?_
    refine O_load (cl' := cl) (sl' := []) (.str c2444) rfl rfl hb2430 (rd_arr (l := [[], [116, 117, 109, 98, 108, 105, 110, 103], [115, 108, 105, 100, 105, 110, 103], [115, 101, 115, 115, 105, 111, 110]]) (f := AV.str) rfl rfl rfl rfl hx2445) rfl rfl rfl (fun p h => ⟨h, fun e => by cases e⟩) ?_
    obtain ⟨s2446, hx2447, h⟩ := obind_some h
    refine oQ (.str s2446) (add_strO rfl rfl hx2447) ?_
    refine oM (.fn 27 []) ?_
    refine oP (.ptr id2417 2) ?_
    refine oP (.ptr id2417 3) ?_
    refine oL (.int .i64 o2413.Windows_Size) hb2428 ?_
    obtain ⟨x2451, hx2452, h⟩ := obind_some h
    refine O_call (sl' := []) [.int .i64 o2413.Windows_Size] rfl rfl rfl rfl (above_of (hf.kp hk2431)) rfl rfl (w27 N (lo := (max lo H2426.length)) o2413.Windows_Size (hf.kp hk2431).up hx2452) ?_
    rintro _ H2448 _ ⟨rfl, hk2449, rfl⟩
    have hb2453 := hk2449.get0 hb2429
    have hb2454 := hk2449.get0 hb2430
    have hb2455 := hk2449.get0 hb2428
    have hk2456 := hk2431.trans hk2449
    obtain ⟨s2457, hx2458, h⟩ := obind_some h
    refine oQ (.str s2457) (add_strO rfl rfl hx2458) ?_
    obtain ⟨s2459, hx2460, h⟩ := obind_some h
    refine oQ (.str s2459) (add_strO rfl rfl hx2460) ?_
    refine oA (.str s2459) ?_
    refine O_nil ?_
    refine keep_to [(5, .ptr id2321 0), (6, .ptr id2330 0), (7, .fn 27 []), (8, .str s2459), (10, .ptr id2417 0), (45, Sl.enc 38 T38.enc p0.Ops), (46, .int .i64 (Sl.len p0.Ops)), (47, .int .i64 v47)] [] rfl rfl ?_
    obtain ⟨v2461, h2462, h⟩ := obind_some h
    refine C_join [5, 6, 7, 8, 45, 46, 47] (fun env' H' sl' cl' => env' = [(5, .ptr id2321 0), (6, .ptr id2330 0), (7, .fn 27 []), (8, .str v2461), (45, Sl.enc 38 T38.enc p0.Ops), (46, .int .i64 (Sl.len p0.Ops)), (47, .int .i64 v47)] ∧ sl' = [] ∧ cl = cl' ∧ Kp [] H H' ∧ H'[id2321]? = some (some ⟨55, [.str [], .str [99, 111, 117, 110, 116], .str [115, 117, 109], .str [109, 105, 110], .str [109, 97, 120], .str [108, 97, 115, 116], .str [108, 105, 115, 116], .str [100, 105, 115, 116, 105, 110, 99, 116], .str [115, 112, 105, 110]]⟩) ∧ H'[id2330]? = some (some ⟨56, [.str [], .str [116, 117, 109, 98, 108, 105, 110, 103], .str [115, 108, 105, 100, 105, 110, 103], .str [115, 101, 115, 115, 105, 111, 110]]⟩)) ?_ ?_
    ·refine C_seq ?_
     refine C_reg ?_
     refine oP (.ptr id2417 2) ?_
     refine oP (.ptr id2417 2) ?_
     refine oL (.int .i64 o2413.Windows_Kind) hb2455 ?_
     refine oP (.bool ((o2413.Windows_Kind : Int) == 2)) ?_
     refine O_nil ?_
     refine keep_to [(5, .ptr id2321 0), (6, .ptr id2330 0), (7, .fn 27 []), (8, .str s2459), (10, .ptr id2417 0), (45, Sl.enc 38 T38.enc p0.Ops), (46, .int .i64 (Sl.len p0.Ops)), (47, .int .i64 v47), (78, .bool ((o2413.Windows_Kind : Int) == 2))] [] rfl rfl ?_
     refine C_cond ((o2413.Windows_Kind : Int) == 2) rfl (fun hc2463 => ?_) (fun hc2463 => ?_)
     ·replace h2462 := ocond_t h2462 hc2463
      refine C_reg ?_
      refine oM (.str s2459) ?_
      refine oM (.fn 27 []) ?_
      refine oP (.ptr id2417 2) ?_
      refine oP (.ptr id2417 4) ?_
      refine oL (.int .i64 o2413.Windows_Slide) hb2455 ?_
      obtain ⟨x2467, hx2468, h2462⟩ := obind_some h2462
      refine oK [.int .i64 o2413.Windows_Slide] (w27 N (lo := lo) o2413.Windows_Slide (hf.kp hk2456) hx2468) ?_
      rintro _ H2464 _ ⟨rfl, hk2465, rfl⟩
      have hb2469 := hk2465.get0 hb2453
      have hb2470 := hk2465.get0 hb2454
      have hb2471 := hk2465.get0 hb2455
      have hk2472 := hk2456.trans hk2465
      obtain ⟨s2473, hx2474, h2462⟩ := obind_some h2462
      refine oQ (.str s2473) (add_strO rfl rfl hx2474) ?_
      refine oA (.str s2473) ?_
      refine O_nil ?_
      refine keep_to [(5, .ptr id2321 0), (6, .ptr id2330 0), (7, .fn 27 []), (8, .str s2473), (45, Sl.enc 38 T38.enc p0.Ops), (46, .int .i64 (Sl.len p0.Ops)), (47, .int .i64 v47)] [] rfl rfl ?_
      obtain rfl := Option.some.inj h2462
      exact ⟨rfl, rfl, rfl, hk2472, hb2469, hb2470⟩
     ·replace h2462 := ocond_f h2462 hc2463
      refine C_skip ?_
      obtain rfl := Option.some.inj h2462
      exact ⟨rfl, rfl, rfl, hk2456, hb2453, hb2454⟩
    ·rintro _ H2475 _ _ ⟨rfl, rfl, rfl, hk2476, hb2477, hb2478⟩
     refine C_reg ?_
     refine oM (.str v2461) ?_
     obtain ⟨s2479, hx2480, h⟩ := obind_some h
     refine oQ (.str s2479) (add_strO rfl rfl hx2480) ?_
     refine oA (.str s2479) ?_
     refine O_nil ?_
     refine keep_to [(5, .ptr id2321 0), (6, .ptr id2330 0), (7, .fn 27 []), (8, .str s2479), (45, Sl.enc 38 T38.enc p0.Ops), (46, .int .i64 (Sl.len p0.Ops)), (47, .int .i64 v47)] [] rfl rfl ?_
     refine C_reg ?_
     refine oP (.int .i64 (IntKind.wrap .i64 (v47 + 1))) ?_
     refine oM (.int .i64 (IntKind.wrap .i64 (v47 + 1))) ?_
     refine O_nil ?_
     refine keep_to [(5, .ptr id2321 0), (6, .ptr id2330 0), (7, .fn 27 []), (8, .str s2479), (45, Sl.enc 38 T38.enc p0.Ops), (46, .int .i64 (Sl.len p0.Ops)), (47, .int .i64 (IntKind.wrap .i64 (v47 + 1)))] [] rfl rfl ?_
     exact ⟨n, Nat.lt_succ_self n, s2479, (IntKind.wrap .i64 (v47 + 1)), rfl, rfl, rfl, hk2476, hb2477, hb2478, h⟩
   ·replace h := ocond_f h hc2412
    refine C_exit ?_
    exact ⟨_, rfl, rfl, rfl, hk2409, hb2410, hb2411, h⟩
  ·rintro _ H2481 _ _ ⟨e2405, rfl, rfl, rfl, hk2482, hb2483, hb2484, h⟩
   subst hk2407
   refine C_seq ?_
   refine C_reg ?_
   refine oM (.str e2405) ?_
   refine oA (.str e2405) ?_
   refine oB (.int .i64 0) ?_
   refine O_nil ?_
   refine keep_to [(2, .str e2405), (3, .int .i64 0)] [] rfl rfl ?_
   refine C_ret ?_
   obtain rfl := Option.some.inj h
   exact ⟨_, rfl, rfl, hk2482, rfl⟩
end Go.Proofs.YtecdcnacjlcjoaaDoor.Job

/- Job: walks (GL7). Printed by a small program. -/
namespace Go.Proofs.YtecdcnacjlcjoaaDoor.Job
open Am
set_option linter.unusedVariables false
set_option linter.unusedSimpArgs false
end Go.Proofs.YtecdcnacjlcjoaaDoor.Job
