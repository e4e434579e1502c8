/- Job: walks (GA). Printed by a small program. -/
import Derived.Test.YtecdcnacjlcjoaaDoorM5
/- Job: walks (GA). Printed by a small program. -/
namespace Go.Proofs.YtecdcnacjlcjoaaDoor.Job
open Am
set_option linter.unusedVariables false
set_option linter.unusedSimpArgs false
set_option linter.unusedVariables false in
def s23_l0 (N : Nat) (p0 : Bs) (p1 : Int) (k13 : Int → Option Int) : Nat → Int → Option Int
  | 0, _ => none
  | n + 1, v5 => (
cond (decide ((v5 : Int) < ((List.length p0 : Nat) : Int)))
 (Option.bind (strAt p0 v5) fun c18 =>
cond ((c18 : Int) != p1)
 (s23_l0 N p0 p1 k13 n (IntKind.wrap .i64 (v5 + 1)))
 (k13 v5))
 (k13 v5))
/- freshet/freshetref24.word -/
def s23 (N : Nat) (p0 : Bs) (p1 : Int) : Option Int :=
jn (fun (e12 : Int) =>
some e12) fun k13 => s23_l0 N p0 p1 k13 N 0
set_option maxRecDepth 8000 in
set_option maxHeartbeats 4000000 in
theorem w23 (N : Nat) {lo : Nat} {cl : Cl} {H : Hp} (p0 : Bs) (p1 : Int) (hf : Fit lo cl H) {r : Int} (h : s23 N p0 p1 = some r) : CallsR Tryd.prog (Kj lo) 23 [.str p0, .int .u8 p1] H (cl) fun x H' cl' => x = .int .i64 r ∧ Kp [] H H' ∧ cl = cl' := by
 refine calls_by Tryd.func23 rfl rfl rfl ?_
 unfold s23 at h
 have hk0 : Kp [] H H := Kp.refl H
 refine C_seq ?_
 refine C_reg ?_
 refine oB (.int .i64 0) ?_
 refine O_nil ?_
 refine keep_to [(0, .str p0), (1, .int .u8 p1)] [] rfl rfl ?_
 refine C_seq ?_
 refine C_reg ?_
 refine oB (.int .i64 0) ?_
 refine O_nil ?_
 refine keep_to [(0, .str p0), (1, .int .u8 p1), (5, .int .i64 0)] [] rfl rfl ?_
 refine C_seq ?_
 refine C_block ?_
 obtain ⟨k13, hk14, h⟩ := jn_some h
 refine C_loopE [0, 1, 5] (fun n env' H' sl' cl' => ∃ (v5 : Int), env' = [(0, .str p0), (1, .int .u8 p1), (5, .int .i64 v5)] ∧ sl' = [] ∧ cl = cl' ∧ Kp [] H H' ∧ s23_l0 N p0 p1 k13 n v5 = some r) 0 [5] (fun env' H' sl' cl' => ∃ (e12 : Int), env' = [(5, .int .i64 e12)] ∧ sl' = [] ∧ cl = cl' ∧ Kp [] H H' ∧ k13 e12 = some r) N ⟨0, rfl, rfl, rfl, hk0, h⟩ ?_ ?_
 ·rintro n _ H15 _ _ ⟨v5, rfl, rfl, rfl, hk16, h⟩
  cases n with
  | zero => rw [s23_l0] at h; cases h
  | succ n =>
  rw [s23_l0] at h
  refine C_seq ?_
  refine C_seq ?_
  refine C_reg ?_
  refine oM (.int .i64 v5) ?_
  refine oM (.str p0) ?_
  refine oP (.int .i64 ((List.length p0 : Nat) : Int)) ?_
  refine oP (.bool (decide ((v5 : Int) < ((List.length p0 : Nat) : Int)))) ?_
  rcases Bool.eq_false_or_eq_true (decide ((v5 : Int) < ((List.length p0 : Nat) : Int))) with hg17 | hg17
  ·replace h := ocond_t h hg17
   refine O_move (sl' := []) (.bool true) rfl (congrArg (fun b => some (AV.bool b)) hg17) rfl rfl rfl ?_
   refine oM (.str p0) ?_
   refine oM (.int .i64 v5) ?_
   obtain ⟨c18, hx19, h⟩ := obind_some h
   refine oQ (.int .u8 c18) (idx_strI rfl rfl rfl hx19) ?_
   refine oM (.int .u8 p1) ?_
   refine oP (.bool ((c18 : Int) != p1)) ?_
   refine oP (.bool ((c18 : Int) != p1)) ?_
   refine O_nil ?_
   refine keep_to [(0, .str p0), (1, .int .u8 p1), (5, .int .i64 v5), (16, .bool ((c18 : Int) != p1))] [] rfl rfl ?_
   refine C_cond ((c18 : Int) != p1) rfl (fun hc20 => ?_) (fun hc20 => ?_)
   ·replace h := ocond_t h hc20
    refine C_skip ?_
    refine C_block ?_
    refine C_reg ?_
    refine oM (.int .i64 v5) ?_
    refine oP (.int .i64 (IntKind.wrap .i64 (v5 + 1))) ?_
    refine oA (.int .i64 (IntKind.wrap .i64 (v5 + 1))) ?_
    refine O_nil ?_
    refine keep_to [(0, .str p0), (1, .int .u8 p1), (5, .int .i64 (IntKind.wrap .i64 (v5 + 1)))] [] rfl rfl ?_
    exact ⟨n, Nat.lt_succ_self n, (IntKind.wrap .i64 (v5 + 1)), rfl, rfl, rfl, hk16, h⟩
   ·replace h := ocond_f h hc20
    refine C_exit ?_
    exact ⟨_, rfl, rfl, rfl, hk16, h⟩
  ·replace h := ocond_f h hg17
   refine O_move (sl' := []) (.bool false) rfl (congrArg (fun b => some (AV.bool b)) hg17) rfl rfl rfl ?_
   refine O_skip rfl rfl ?_
   refine O_skip rfl rfl ?_
   refine O_skip rfl rfl ?_
   refine O_skip rfl rfl ?_
   refine O_skip rfl rfl ?_
   refine oP (.bool false) ?_
   refine O_nil ?_
   refine keep_to [(0, .str p0), (1, .int .u8 p1), (5, .int .i64 v5), (16, .bool false)] [] rfl rfl ?_
   refine C_false rfl ?_
   refine C_exit ?_
   exact ⟨_, rfl, rfl, rfl, hk16, h⟩
 ·rintro _ H21 _ _ ⟨e12, rfl, rfl, rfl, hk22, h⟩
  subst hk14
  refine C_seq ?_
  refine C_reg ?_
  refine oM (.int .i64 e12) ?_
  refine oA (.int .i64 e12) ?_
  refine O_nil ?_
  refine keep_to [(4, .int .i64 e12)] [] rfl rfl ?_
  refine C_ret ?_
  obtain rfl := Option.some.inj h
  exact ⟨_, rfl, rfl, hk22, rfl⟩
set_option linter.unusedVariables false in
def s25_l0 (N : Nat) (k42 : Unit → Option (Sl Bs)) : Nat → Bs → (Sl Bs) → Option (Sl Bs)
  | 0, _, _ => none
  | n + 1, v0, v3 => (
Option.bind (s23 N v0 32) fun x49 =>
Option.bind (scut v0 none (some x49)) fun s52 =>
Option.bind (Sl.app 16 v3 (some ([s52], []))) fun l54 =>
cond ((x49 : Int) == ((List.length v0 : Nat) : Int))
 (some l54)
 (Option.bind (scut v0 (some (IntKind.wrap .i64 (x49 + 1))) none) fun s57 =>
s25_l0 N k42 n s57 l54))
/- freshet/freshetref24.words -/
def s25 (N : Nat) (p0 : Bs) : Option (Sl Bs) :=
jn (fun (e41 : Unit) =>
none) fun k42 => s25_l0 N k42 N p0 none
set_option maxRecDepth 8000 in
set_option maxHeartbeats 4000000 in
theorem w25 (N : Nat) {lo : Nat} {cl : Cl} {H : Hp} (p0 : Bs) (hf : Fit lo cl H) {r : (Sl Bs)} (h : s25 N p0 = some r) : CallsR Tryd.prog (Kj lo) 25 [.str p0] H (cl) fun x H' cl' => x = Sl.enc 9 AV.str r ∧ Kp [] H H' ∧ cl = cl' := by
 refine calls_by Tryd.func25 rfl rfl rfl ?_
 unfold s25 at h
 have hk0 : Kp [] H H := Kp.refl H
 refine C_seq ?_
 refine C_reg ?_
 refine O_asgC (sl' := [2]) (Sl.enc 9 AV.str none) rfl rfl rfl rfl rfl ?_
 refine O_nil ?_
 refine keep_to [(0, .str p0)] [] rfl rfl ?_
 refine C_seq ?_
 refine C_reg ?_
 refine O_asgC (sl' := [3]) (Sl.enc 9 AV.str none) rfl rfl rfl rfl rfl ?_
 refine O_nil ?_
 refine keep_to [(0, .str p0), (3, Sl.enc 9 AV.str none)] [3] rfl rfl ?_
 refine C_block ?_
 obtain ⟨k42, hk43, h⟩ := jn_some h
 refine C_loopE [0, 3] (fun n env' H' sl' cl' => ∃ (v0 : Bs), ∃ (v3 : (Sl Bs)), env' = [(0, .str v0), (3, Sl.enc 9 AV.str v3)] ∧ sl' = [3] ∧ cl = cl' ∧ Kp [] H H' ∧ s25_l0 N k42 n v0 v3 = some r) 999999 [] (fun _ _ _ _ => False) N ⟨p0, none, rfl, rfl, rfl, hk0, h⟩ ?_ ?_
 ·rintro n _ H44 _ _ ⟨v0, v3, rfl, rfl, rfl, hk45, h⟩
  cases n with
  | zero => rw [s25_l0] at h; cases h
  | succ n =>
  rw [s25_l0] at h
  refine C_block ?_
  refine C_seq ?_
  refine C_reg ?_
  refine O_move (sl' := [3]) (.str v0) rfl rfl rfl rfl rfl ?_
  obtain ⟨x49, hx50, h⟩ := obind_some h
  refine O_call (sl' := [3]) [.str v0, .int .u8 32] rfl rfl rfl rfl rfl rfl rfl (w23 N (lo := lo) v0 32 (hf.kp hk45) hx50) ?_
  rintro _ H46 _ ⟨rfl, hk47, rfl⟩
  have hk51 := hk45.trans hk47
  refine O_asg (sl' := [3]) (.int .i64 x49) rfl rfl rfl rfl ?_
  refine O_nil ?_
  refine keep_to [(0, .str v0), (3, Sl.enc 9 AV.str v3), (4, .int .i64 x49)] [3] rfl rfl ?_
  refine C_seq ?_
  refine C_reg ?_
  refine O_moveO (sl' := [7]) (Sl.enc 9 AV.str v3) rfl rfl rfl rfl rfl rfl ?_
  refine O_move (sl' := [7]) (.str v0) rfl rfl rfl rfl rfl ?_
  refine O_move (sl' := [7]) (.int .i64 x49) rfl rfl rfl rfl rfl ?_
  obtain ⟨s52, hx53, h⟩ := obind_some h
  refine O_pure (sl' := [7]) (.str s52) rfl (cut_str (l := none) (h := (some x49)) rfl rfl rfl rfl hx53) rfl rfl ?_
  refine O_bslice (sl' := [11, 7]) [(0, .str s52)] [.str s52] rfl rfl rfl rfl rfl rfl ?_
  obtain ⟨l54, hx55, h⟩ := obind_some h
  refine O_app (sl' := [12, 11]) (f := AV.str) (s := v3) (some ([s52], [])) rfl rfl rfl rfl rfl rfl (tail_sl (y := (some ([s52], []))) (f := AV.str) rfl rfl) rfl rfl rfl rfl rfl hx55 rfl rfl rfl ?_
  refine O_asg (sl' := [3, 11]) (Sl.enc 9 AV.str l54) rfl rfl rfl rfl ?_
  refine O_nil ?_
  refine keep_to [(0, .str v0), (3, Sl.enc 9 AV.str l54), (4, .int .i64 x49)] [3] rfl rfl ?_
  refine C_seq ?_
  refine C_seq ?_
  refine C_reg ?_
  refine O_move (sl' := [3]) (.int .i64 x49) rfl rfl rfl rfl rfl ?_
  refine O_move (sl' := [3]) (.str v0) rfl rfl rfl rfl rfl ?_
  refine O_pure (sl' := [3]) (.int .i64 ((List.length v0 : Nat) : Int)) rfl rfl rfl rfl ?_
  refine O_pure (sl' := [3]) (.bool ((x49 : Int) == ((List.length v0 : Nat) : Int))) rfl rfl rfl rfl ?_
  refine O_nil ?_
  refine keep_to [(0, .str v0), (3, Sl.enc 9 AV.str l54), (4, .int .i64 x49), (16, .bool ((x49 : Int) == ((List.length v0 : Nat) : Int)))] [3] rfl rfl ?_
  refine C_cond ((x49 : Int) == ((List.length v0 : Nat) : Int)) rfl (fun hc56 => ?_) (fun hc56 => ?_)
  ·replace h := ocond_t h hc56
   refine C_seq ?_
   refine C_reg ?_
   refine O_move (sl' := [3]) (Sl.enc 9 AV.str l54) rfl rfl rfl rfl rfl ?_
   refine O_asg (sl' := [3]) (Sl.enc 9 AV.str l54) rfl rfl rfl rfl ?_
   refine O_nil ?_
   refine keep_to [(2, Sl.enc 9 AV.str l54)] [] rfl rfl ?_
   refine C_ret ?_
   obtain rfl := Option.some.inj h
   exact ⟨_, rfl, rfl, hk51, rfl⟩
  ·replace h := ocond_f h hc56
   refine C_skip ?_
   refine C_reg ?_
   refine O_move (sl' := [3]) (.str v0) rfl rfl rfl rfl rfl ?_
   refine O_move (sl' := [3]) (.int .i64 x49) rfl rfl rfl rfl rfl ?_
   refine O_pure (sl' := [3]) (.int .i64 (IntKind.wrap .i64 (x49 + 1))) rfl rfl rfl rfl ?_
   obtain ⟨s57, hx58, h⟩ := obind_some h
   refine O_pure (sl' := [3]) (.str s57) rfl (cut_str (l := (some (IntKind.wrap .i64 (x49 + 1)))) (h := none) rfl rfl rfl rfl hx58) rfl rfl ?_
   refine O_asg (sl' := [3]) (.str s57) rfl rfl rfl rfl ?_
   refine O_nil ?_
   refine keep_to [(0, .str s57), (3, Sl.enc 9 AV.str l54)] [3] rfl rfl ?_
   exact ⟨n, Nat.lt_succ_self n, s57, l54, rfl, rfl, rfl, hk51, h⟩
 ·intro _ _ _ _ h; exact h.elim
set_option linter.unusedVariables false in
def s44_l0 (N : Nat) (p0 : Bs) (k99 : Int → Option Int) : Nat → Int → Int → Option Int
  | 0, _, _ => none
  | n + 1, v3, v4 => (
cond (decide ((v4 : Int) < ((List.length p0 : Nat) : Int)))
 (Option.bind (strAt p0 v4) fun c104 =>
cond (decide ((c104 : Int) < 48))
 (some (-1))
 (Option.bind (strAt p0 v4) fun c107 =>
cond (decide ((c107 : Int) > 57))
 (some (-1))
 (Option.bind (strAt p0 v4) fun c110 =>
s44_l0 N p0 k99 n (IntKind.wrap .i64 ((IntKind.wrap .i64 ((IntKind.wrap .i64 (10 * v3)) + (IntKind.wrap .i64 c110))) - 48)) (IntKind.wrap .i64 (v4 + 1)))))
 (k99 v3))
/- freshet/freshetref24.number -/
def s44 (N : Nat) (p0 : Bs) : Option Int :=
jn (fun (v87 : Unit) =>
jn (fun (e98 : Int) =>
cond (decide ((e98 : Int) > 1099511627776))
 (some (-1))
 (some e98)) fun k99 => s44_l0 N p0 k99 N 0 0) fun k88 =>
cond (decide ((((List.length p0 : Nat) : Int) : Int) < 1))
 (some (-1))
 (cond (decide ((((List.length p0 : Nat) : Int) : Int) > 13))
 (some (-1))
 (cond (decide ((((List.length p0 : Nat) : Int) : Int) > 1))
 (Option.bind (strAt p0 0) fun c93 =>
cond ((c93 : Int) == 48)
 (some (-1))
 (k88 ()))
 (k88 ())))
set_option maxRecDepth 8000 in
set_option maxHeartbeats 4000000 in
theorem w44 (N : Nat) {lo : Nat} {cl : Cl} {H : Hp} (p0 : Bs) (hf : Fit lo cl H) {r : Int} (h : s44 N p0 = some r) : CallsR Tryd.prog (Kj lo) 44 [.str p0] H (cl) fun x H' cl' => x = .int .i64 r ∧ Kp [] H H' ∧ cl = cl' := by
 refine calls_by Tryd.func44 rfl rfl rfl ?_
 unfold s44 at h
 have hk0 : Kp [] H H := Kp.refl H
 refine C_seq ?_
 refine C_reg ?_
 refine oB (.int .i64 0) ?_
 refine O_nil ?_
 refine keep_to [(0, .str p0)] [] rfl rfl ?_
 obtain ⟨k88, hk89, h⟩ := jn_some h
 refine C_join [0] (fun env' H' sl' cl' => ∃ v87 : Unit, env' = [(0, .str p0)] ∧ sl' = [] ∧ cl = cl' ∧ Kp [] H H' ∧ k88 v87 = some r) ?_ ?_
 ·refine C_seq ?_
  refine C_reg ?_
  refine oM (.str p0) ?_
  refine oP (.int .i64 ((List.length p0 : Nat) : Int)) ?_
  refine oP (.bool (decide ((((List.length p0 : Nat) : Int) : Int) < 1))) ?_
  rcases Bool.eq_false_or_eq_true (decide ((((List.length p0 : Nat) : Int) : Int) < 1)) with hg90 | hg90
  ·replace h := ocond_t h hg90
   refine O_move (sl' := []) (.bool true) rfl (congrArg (fun b => some (AV.bool b)) hg90) rfl rfl rfl ?_
   refine O_skip rfl rfl ?_
   refine O_skip rfl rfl ?_
   refine O_skip rfl rfl ?_
   refine oP (.bool true) ?_
   refine oM (.bool true) ?_
   refine O_skip rfl rfl ?_
   refine O_skip rfl rfl ?_
   refine O_skip rfl rfl ?_
   refine O_skip rfl rfl ?_
   refine O_skip rfl rfl ?_
   refine O_skip rfl rfl ?_
   refine O_skip rfl rfl ?_
   refine O_skip rfl rfl ?_
   refine oP (.bool true) ?_
   refine O_nil ?_
   refine keep_to [(0, .str p0), (22, .bool true)] [] rfl rfl ?_
   refine C_true rfl ?_
   refine C_seq ?_
   refine C_reg ?_
   refine oB (.int .i64 (-1)) ?_
   refine O_nil ?_
   refine keep_to [(2, .int .i64 (-1))] [] rfl rfl ?_
   refine C_ret ?_
   obtain rfl := Option.some.inj h
   exact ⟨_, rfl, rfl, hk0, rfl⟩
  ·replace h := ocond_f h hg90
   refine O_move (sl' := []) (.bool false) rfl (congrArg (fun b => some (AV.bool b)) hg90) rfl rfl rfl ?_
   refine oM (.str p0) ?_
   refine oP (.int .i64 ((List.length p0 : Nat) : Int)) ?_
   refine oP (.bool (decide ((((List.length p0 : Nat) : Int) : Int) > 13))) ?_
   refine oP (.bool (decide ((((List.length p0 : Nat) : Int) : Int) > 13))) ?_
   rcases Bool.eq_false_or_eq_true (decide ((((List.length p0 : Nat) : Int) : Int) > 13)) with hg91 | hg91
   ·replace h := ocond_t h hg91
    refine O_move (sl' := []) (.bool true) rfl (congrArg (fun b => some (AV.bool b)) hg91) rfl rfl rfl ?_
    refine O_skip rfl rfl ?_
    refine O_skip rfl rfl ?_
    refine O_skip rfl rfl ?_
    refine O_skip rfl rfl ?_
    refine O_skip rfl rfl ?_
    refine O_skip rfl rfl ?_
    refine O_skip rfl rfl ?_
    refine O_skip rfl rfl ?_
    refine oP (.bool true) ?_
    refine O_nil ?_
    refine keep_to [(0, .str p0), (22, .bool true)] [] rfl rfl ?_
    refine C_true rfl ?_
    refine C_seq ?_
    refine C_reg ?_
    refine oB (.int .i64 (-1)) ?_
    refine O_nil ?_
    refine keep_to [(2, .int .i64 (-1))] [] rfl rfl ?_
    refine C_ret ?_
    obtain rfl := Option.some.inj h
    exact ⟨_, rfl, rfl, hk0, rfl⟩
   ·replace h := ocond_f h hg91
    refine O_move (sl' := []) (.bool false) rfl (congrArg (fun b => some (AV.bool b)) hg91) rfl rfl rfl ?_
    refine oM (.str p0) ?_
    refine oP (.int .i64 ((List.length p0 : Nat) : Int)) ?_
    refine oP (.bool (decide ((((List.length p0 : Nat) : Int) : Int) > 1))) ?_
    rcases Bool.eq_false_or_eq_true (decide ((((List.length p0 : Nat) : Int) : Int) > 1)) with hg92 | hg92
    ·replace h := ocond_t h hg92
     refine O_move (sl' := []) (.bool true) rfl (congrArg (fun b => some (AV.bool b)) hg92) rfl rfl rfl ?_
     refine oM (.str p0) ?_
     obtain ⟨c93, hx94, h⟩ := obind_some h
     refine oQ (.int .u8 c93) (idx_strI rfl rfl rfl hx94) ?_
     refine oP (.bool ((c93 : Int) == 48)) ?_
     refine oP (.bool ((c93 : Int) == 48)) ?_
     refine oP (.bool ((c93 : Int) == 48)) ?_
     refine O_nil ?_
     refine keep_to [(0, .str p0), (22, .bool ((c93 : Int) == 48))] [] rfl rfl ?_
     refine C_cond ((c93 : Int) == 48) rfl (fun hc95 => ?_) (fun hc95 => ?_)
     ·replace h := ocond_t h hc95
      refine C_seq ?_
      refine C_reg ?_
      refine oB (.int .i64 (-1)) ?_
      refine O_nil ?_
      refine keep_to [(2, .int .i64 (-1))] [] rfl rfl ?_
      refine C_ret ?_
      obtain rfl := Option.some.inj h
      exact ⟨_, rfl, rfl, hk0, rfl⟩
     ·replace h := ocond_f h hc95
      refine C_skip ?_
      exact ⟨_, rfl, rfl, rfl, hk0, h⟩
    ·replace h := ocond_f h hg92
     refine O_move (sl' := []) (.bool false) rfl (congrArg (fun b => some (AV.bool b)) hg92) rfl rfl rfl ?_
     refine O_skip rfl rfl ?_
     refine O_skip rfl rfl ?_
     refine O_skip rfl rfl ?_
     refine oP (.bool false) ?_
     refine oP (.bool false) ?_
     refine O_nil ?_
     refine keep_to [(0, .str p0), (22, .bool false)] [] rfl rfl ?_
     refine C_false rfl ?_
     refine C_skip ?_
     exact ⟨_, rfl, rfl, rfl, hk0, h⟩
 ·rintro _ H96 _ _ ⟨v87, rfl, rfl, rfl, hk97, h⟩
  subst hk89
  refine C_seq ?_
  refine C_reg ?_
  refine oB (.int .i64 0) ?_
  refine O_nil ?_
  refine keep_to [(0, .str p0), (3, .int .i64 0)] [] rfl rfl ?_
  refine C_seq ?_
  refine C_seq ?_
  refine C_reg ?_
  refine oB (.int .i64 0) ?_
  refine O_nil ?_
  refine keep_to [(0, .str p0), (3, .int .i64 0), (4, .int .i64 0)] [] rfl rfl ?_
  refine C_block ?_
  obtain ⟨k99, hk100, h⟩ := jn_some h
  refine C_loopE [0, 3, 4] (fun n env' H' sl' cl' => ∃ (v3 : Int), ∃ (v4 : Int), env' = [(0, .str p0), (3, .int .i64 v3), (4, .int .i64 v4)] ∧ sl' = [] ∧ cl = cl' ∧ Kp [] H H' ∧ s44_l0 N p0 k99 n v3 v4 = some r) 0 [3] (fun env' H' sl' cl' => ∃ (e98 : Int), env' = [(3, .int .i64 e98)] ∧ sl' = [] ∧ cl = cl' ∧ Kp [] H H' ∧ k99 e98 = some r) N ⟨0, 0, rfl, rfl, rfl, hk97, h⟩ ?_ ?_
  ·rintro n _ H101 _ _ ⟨v3, v4, rfl, rfl, rfl, hk102, h⟩
   cases n with
   | zero => rw [s44_l0] at h; cases h
   | succ n =>
   rw [s44_l0] at h
   refine C_seq ?_
   refine C_seq ?_
   refine C_reg ?_
   refine oM (.int .i64 v4) ?_
   refine oM (.str p0) ?_
   refine oP (.int .i64 ((List.length p0 : Nat) : Int)) ?_
   refine oP (.bool (decide ((v4 : Int) < ((List.length p0 : Nat) : Int)))) ?_
   refine O_nil ?_
   refine keep_to [(0, .str p0), (3, .int .i64 v3), (4, .int .i64 v4), (26, .bool (decide ((v4 : Int) < ((List.length p0 : Nat) : Int))))] [] rfl rfl ?_
   refine C_cond (decide ((v4 : Int) < ((List.length p0 : Nat) : Int))) rfl (fun hc103 => ?_) (fun hc103 => ?_)
   ·replace h := ocond_t h hc103
    refine C_skip ?_
    refine C_seq ?_
    refine C_block ?_
    refine C_seq ?_
    refine C_seq ?_
    refine C_reg ?_
    refine oM (.str p0) ?_
    refine oM (.int .i64 v4) ?_
    obtain ⟨c104, hx105, h⟩ := obind_some h
    refine oQ (.int .u8 c104) (idx_strI rfl rfl rfl hx105) ?_
    refine oP (.bool (decide ((c104 : Int) < 48))) ?_
    rcases Bool.eq_false_or_eq_true (decide ((c104 : Int) < 48)) with hg106 | hg106
    ·replace h := ocond_t h hg106
     refine O_move (sl' := []) (.bool true) rfl (congrArg (fun b => some (AV.bool b)) hg106) rfl rfl rfl ?_
     refine O_skip rfl rfl ?_
     refine O_skip rfl rfl ?_
     refine O_skip rfl rfl ?_
     refine O_skip rfl rfl ?_
     refine oP (.bool true) ?_
     refine O_nil ?_
     refine keep_to [(0, .str p0), (3, .int .i64 v3), (4, .int .i64 v4), (38, .bool true)] [] rfl rfl ?_
     refine C_true rfl ?_
     refine C_seq ?_
     refine C_reg ?_
     refine oB (.int .i64 (-1)) ?_
     refine O_nil ?_
     refine keep_to [(2, .int .i64 (-1))] [] rfl rfl ?_
     refine C_ret ?_
     obtain rfl := Option.some.inj h
     exact ⟨_, rfl, rfl, hk102, rfl⟩
    ·replace h := ocond_f h hg106
     refine O_move (sl' := []) (.bool false) rfl (congrArg (fun b => some (AV.bool b)) hg106) rfl rfl rfl ?_
     refine oM (.str p0) ?_
     refine oM (.int .i64 v4) ?_
     obtain ⟨c107, hx108, h⟩ := obind_some h
     refine oQ (.int .u8 c107) (idx_strI rfl rfl rfl hx108) ?_
     refine oP (.bool (decide ((c107 : Int) > 57))) ?_
     refine oP (.bool (decide ((c107 : Int) > 57))) ?_
     refine O_nil ?_
     refine keep_to [(0, .str p0), (3, .int .i64 v3), (4, .int .i64 v4), (38, .bool (decide ((c107 : Int) > 57)))] [] rfl rfl ?_
     refine C_cond (decide ((c107 : Int) > 57)) rfl (fun hc109 => ?_) (fun hc109 => ?_)
     ·replace h := ocond_t h hc109
      refine C_seq ?_
      refine C_reg ?_
      refine oB (.int .i64 (-1)) ?_
      refine O_nil ?_
      refine keep_to [(2, .int .i64 (-1))] [] rfl rfl ?_
      refine C_ret ?_
      obtain rfl := Option.some.inj h
      exact ⟨_, rfl, rfl, hk102, rfl⟩
     ·replace h := ocond_f h hc109
      refine C_skip ?_
      refine C_reg ?_
      refine oM (.int .i64 v3) ?_
      refine oP (.int .i64 (IntKind.wrap .i64 (10 * v3))) ?_
      refine oM (.str p0) ?_
      refine oM (.int .i64 v4) ?_
      obtain ⟨c110, hx111, h⟩ := obind_some h
      refine oQ (.int .u8 c110) (idx_strI rfl rfl rfl hx111) ?_
      refine oP (.int .i64 (IntKind.wrap .i64 c110)) ?_
      refine oP (.int .i64 (IntKind.wrap .i64 ((IntKind.wrap .i64 (10 * v3)) + (IntKind.wrap .i64 c110)))) ?_
      refine oP (.int .i64 (IntKind.wrap .i64 ((IntKind.wrap .i64 ((IntKind.wrap .i64 (10 * v3)) + (IntKind.wrap .i64 c110))) - 48))) ?_
      refine oA (.int .i64 (IntKind.wrap .i64 ((IntKind.wrap .i64 ((IntKind.wrap .i64 (10 * v3)) + (IntKind.wrap .i64 c110))) - 48))) ?_
      refine O_nil ?_
      refine keep_to [(0, .str p0), (3, .int .i64 (IntKind.wrap .i64 ((IntKind.wrap .i64 ((IntKind.wrap .i64 (10 * v3)) + (IntKind.wrap .i64 c110))) - 48))), (4, .int .i64 v4)] [] rfl rfl ?_
      refine C_reg ?_
      refine oM (.int .i64 v4) ?_
      refine oP (.int .i64 (IntKind.wrap .i64 (v4 + 1))) ?_
      refine oA (.int .i64 (IntKind.wrap .i64 (v4 + 1))) ?_
      refine O_nil ?_
      refine keep_to [(0, .str p0), (3, .int .i64 (IntKind.wrap .i64 ((IntKind.wrap .i64 ((IntKind.wrap .i64 (10 * v3)) + (IntKind.wrap .i64 c110))) - 48))), (4, .int .i64 (IntKind.wrap .i64 (v4 + 1)))] [] rfl rfl ?_
      exact ⟨n, Nat.lt_succ_self n, (IntKind.wrap .i64 ((IntKind.wrap .i64 ((IntKind.wrap .i64 (10 * v3)) + (IntKind.wrap .i64 c110))) - 48)), (IntKind.wrap .i64 (v4 + 1)), rfl, rfl, rfl, hk102, h⟩
   ·replace h := ocond_f h hc103
    refine C_exit ?_
    exact ⟨_, rfl, rfl, rfl, hk102, h⟩
  ·rintro _ H112 _ _ ⟨e98, rfl, rfl, rfl, hk113, h⟩
   subst hk100
   refine C_seq ?_
   refine C_seq ?_
   refine C_reg ?_
   refine oM (.int .i64 e98) ?_
   refine oP (.bool (decide ((e98 : Int) > 1099511627776))) ?_
   refine O_nil ?_
   refine keep_to [(3, .int .i64 e98), (48, .bool (decide ((e98 : Int) > 1099511627776)))] [] rfl rfl ?_
   refine C_cond (decide ((e98 : Int) > 1099511627776)) rfl (fun hc114 => ?_) (fun hc114 => ?_)
   ·replace h := ocond_t h hc114
    refine C_seq ?_
    refine C_reg ?_
    refine oB (.int .i64 (-1)) ?_
    refine O_nil ?_
    refine keep_to [(2, .int .i64 (-1))] [] rfl rfl ?_
    refine C_ret ?_
    obtain rfl := Option.some.inj h
    exact ⟨_, rfl, rfl, hk113, rfl⟩
   ·replace h := ocond_f h hc114
    refine C_skip ?_
    refine C_seq ?_
    refine C_reg ?_
    refine oM (.int .i64 e98) ?_
    refine oA (.int .i64 e98) ?_
    refine O_nil ?_
    refine keep_to [(2, .int .i64 e98)] [] rfl rfl ?_
    refine C_ret ?_
    obtain rfl := Option.some.inj h
    exact ⟨_, rfl, rfl, hk113, rfl⟩
/- freshet/freshetref24.Agg -/
def s46 (N : Nat) (p0 : Int) : Option Bs :=
cond ((p0 : Int) == 1)
 (some [99, 111, 117, 110, 116])
 (cond ((p0 : Int) == 2)
 (some [115, 117, 109])
 (cond ((p0 : Int) == 3)
 (some [109, 105, 110])
 (cond ((p0 : Int) == 4)
 (some [109, 97, 120])
 (cond ((p0 : Int) == 5)
 (some [108, 97, 115, 116])
 (cond ((p0 : Int) == 6)
 (some [108, 105, 115, 116])
 (cond ((p0 : Int) == 7)
 (some [100, 105, 115, 116, 105, 110, 99, 116])
 (cond ((p0 : Int) == 8)
 (some [115, 112, 105, 110])
 (some []))))))))
set_option maxRecDepth 8000 in
set_option maxHeartbeats 4000000 in
theorem w46 (N : Nat) {lo : Nat} {cl : Cl} {H : Hp} (p0 : Int) (hf : Fit lo cl H) {r : Bs} (h : s46 N p0 = some r) : CallsR Tryd.prog (Kj lo) 46 [.int .i64 p0] H (cl) fun x H' cl' => x = .str r ∧ Kp [] H H' ∧ cl = cl' := by
 refine calls_by Tryd.func46 rfl rfl rfl ?_
 unfold s46 at h
 have hk0 : Kp [] H H := Kp.refl H
 refine C_seq ?_
 refine C_reg ?_
 refine oB (.str []) ?_
 refine O_nil ?_
 refine keep_to [(0, .int .i64 p0)] [] rfl rfl ?_
 refine C_seq ?_
 refine C_seq ?_
 refine C_reg ?_
 refine oM (.int .i64 p0) ?_
 refine O_nil ?_
 refine keep_to [(3, .int .i64 p0)] [] rfl rfl ?_
 refine C_block ?_
 refine C_seq ?_
 refine C_reg ?_
 refine oP (.bool ((p0 : Int) == 1)) ?_
 refine oA (.bool ((p0 : Int) == 1)) ?_
 refine O_nil ?_
 refine keep_to [(3, .int .i64 p0), (4, .bool ((p0 : Int) == 1))] [] rfl rfl ?_
 refine C_cond ((p0 : Int) == 1) rfl (fun hc154 => ?_) (fun hc154 => ?_)
 ·replace h := ocond_t h hc154
  refine C_seq ?_
  refine C_reg ?_
  refine oB (.str [99, 111, 117, 110, 116]) ?_
  refine O_nil ?_
  refine keep_to [(2, .str [99, 111, 117, 110, 116])] [] rfl rfl ?_
  refine C_ret ?_
  obtain rfl := Option.some.inj h
  exact ⟨_, rfl, rfl, hk0, rfl⟩
 ·replace h := ocond_f h hc154
  refine C_seq ?_
  refine C_reg ?_
  refine oP (.bool ((p0 : Int) == 2)) ?_
  refine oA (.bool ((p0 : Int) == 2)) ?_
  refine O_nil ?_
  refine keep_to [(3, .int .i64 p0), (6, .bool ((p0 : Int) == 2))] [] rfl rfl ?_
  refine C_cond ((p0 : Int) == 2) rfl (fun hc155 => ?_) (fun hc155 => ?_)
  ·replace h := ocond_t h hc155
   refine C_seq ?_
   refine C_reg ?_
   refine oB (.str [115, 117, 109]) ?_
   refine O_nil ?_
   refine keep_to [(2, .str [115, 117, 109])] [] rfl rfl ?_
   refine C_ret ?_
   obtain rfl := Option.some.inj h
   exact ⟨_, rfl, rfl, hk0, rfl⟩
  ·replace h := ocond_f h hc155
   refine C_seq ?_
   refine C_reg ?_
   refine oP (.bool ((p0 : Int) == 3)) ?_
   refine oA (.bool ((p0 : Int) == 3)) ?_
   refine O_nil ?_
   refine keep_to [(3, .int .i64 p0), (8, .bool ((p0 : Int) == 3))] [] rfl rfl ?_
   refine C_cond ((p0 : Int) == 3) rfl (fun hc156 => ?_) (fun hc156 => ?_)
   ·replace h := ocond_t h hc156
    refine C_seq ?_
    refine C_reg ?_
    refine oB (.str [109, 105, 110]) ?_
    refine O_nil ?_
    refine keep_to [(2, .str [109, 105, 110])] [] rfl rfl ?_
    refine C_ret ?_
    obtain rfl := Option.some.inj h
    exact ⟨_, rfl, rfl, hk0, rfl⟩
   ·replace h := ocond_f h hc156
    refine C_seq ?_
    refine C_reg ?_
    refine oP (.bool ((p0 : Int) == 4)) ?_
    refine oA (.bool ((p0 : Int) == 4)) ?_
    refine O_nil ?_
    refine keep_to [(3, .int .i64 p0), (10, .bool ((p0 : Int) == 4))] [] rfl rfl ?_
    refine C_cond ((p0 : Int) == 4) rfl (fun hc157 => ?_) (fun hc157 => ?_)
    ·replace h := ocond_t h hc157
     refine C_seq ?_
     refine C_reg ?_
     refine oB (.str [109, 97, 120]) ?_
     refine O_nil ?_
     refine keep_to [(2, .str [109, 97, 120])] [] rfl rfl ?_
     refine C_ret ?_
     obtain rfl := Option.some.inj h
     exact ⟨_, rfl, rfl, hk0, rfl⟩
    ·replace h := ocond_f h hc157
     refine C_seq ?_
     refine C_reg ?_
     refine oP (.bool ((p0 : Int) == 5)) ?_
     refine oA (.bool ((p0 : Int) == 5)) ?_
     refine O_nil ?_
     refine keep_to [(3, .int .i64 p0), (12, .bool ((p0 : Int) == 5))] [] rfl rfl ?_
     refine C_cond ((p0 : Int) == 5) rfl (fun hc158 => ?_) (fun hc158 => ?_)
     ·replace h := ocond_t h hc158
      refine C_seq ?_
      refine C_reg ?_
      refine oB (.str [108, 97, 115, 116]) ?_
      refine O_nil ?_
      refine keep_to [(2, .str [108, 97, 115, 116])] [] rfl rfl ?_
      refine C_ret ?_
      obtain rfl := Option.some.inj h
      exact ⟨_, rfl, rfl, hk0, rfl⟩
     ·replace h := ocond_f h hc158
      refine C_seq ?_
      refine C_reg ?_
      refine oP (.bool ((p0 : Int) == 6)) ?_
      refine oA (.bool ((p0 : Int) == 6)) ?_
      refine O_nil ?_
      refine keep_to [(3, .int .i64 p0), (14, .bool ((p0 : Int) == 6))] [] rfl rfl ?_
      refine C_cond ((p0 : Int) == 6) rfl (fun hc159 => ?_) (fun hc159 => ?_)
      ·replace h := ocond_t h hc159
       refine C_seq ?_
       refine C_reg ?_
       refine oB (.str [108, 105, 115, 116]) ?_
       refine O_nil ?_
       refine keep_to [(2, .str [108, 105, 115, 116])] [] rfl rfl ?_
       refine C_ret ?_
       obtain rfl := Option.some.inj h
       exact ⟨_, rfl, rfl, hk0, rfl⟩
      ·replace h := ocond_f h hc159
       refine C_seq ?_
       refine C_reg ?_
       refine oP (.bool ((p0 : Int) == 7)) ?_
       refine oA (.bool ((p0 : Int) == 7)) ?_
       refine O_nil ?_
       refine keep_to [(3, .int .i64 p0), (16, .bool ((p0 : Int) == 7))] [] rfl rfl ?_
       refine C_cond ((p0 : Int) == 7) rfl (fun hc160 => ?_) (fun hc160 => ?_)
       ·replace h := ocond_t h hc160
        refine C_seq ?_
        refine C_reg ?_
        refine oB (.str [100, 105, 115, 116, 105, 110, 99, 116]) ?_
        refine O_nil ?_
        refine keep_to [(2, .str [100, 105, 115, 116, 105, 110, 99, 116])] [] rfl rfl ?_
        refine C_ret ?_
        obtain rfl := Option.some.inj h
        exact ⟨_, rfl, rfl, hk0, rfl⟩
       ·replace h := ocond_f h hc160
        refine C_seq ?_
        refine C_reg ?_
        refine oP (.bool ((p0 : Int) == 8)) ?_
        refine oA (.bool ((p0 : Int) == 8)) ?_
        refine O_nil ?_
        refine keep_to [(18, .bool ((p0 : Int) == 8))] [] rfl rfl ?_
        refine C_cond ((p0 : Int) == 8) rfl (fun hc161 => ?_) (fun hc161 => ?_)
        ·replace h := ocond_t h hc161
         refine C_seq ?_
         refine C_reg ?_
         refine oB (.str [115, 112, 105, 110]) ?_
         refine O_nil ?_
         refine keep_to [(2, .str [115, 112, 105, 110])] [] rfl rfl ?_
         refine C_ret ?_
         obtain rfl := Option.some.inj h
         exact ⟨_, rfl, rfl, hk0, rfl⟩
        ·replace h := ocond_f h hc161
         refine C_skip ?_
         refine C_seq ?_
         refine C_reg ?_
         refine oB (.str []) ?_
         refine O_nil ?_
         refine keep_to [(2, .str [])] [] rfl rfl ?_
         refine C_ret ?_
         obtain rfl := Option.some.inj h
         exact ⟨_, rfl, rfl, hk0, rfl⟩
set_option linter.unusedVariables false in
def s56_l0 (N : Nat) (p0 : Bs) (k162 : Unit → Option Int) : Nat → Int → Option Int
  | 0, _ => none
  | n + 1, v3 => (
cond (decide ((v3 : Int) ≤ 8))
 (Option.bind (s46 N v3) fun x170 =>
cond ((x170 : Bs) == p0)
 (some v3)
 (s56_l0 N p0 k162 n (IntKind.wrap .i64 (v3 + 1))))
 (k162 ()))
/- freshet/freshetref24.agg -/
def s56 (N : Nat) (p0 : Bs) : Option Int :=
jn (fun (e161 : Unit) =>
some 0) fun k162 => s56_l0 N p0 k162 N 1
set_option maxRecDepth 8000 in
set_option maxHeartbeats 4000000 in
theorem w56 (N : Nat) {lo : Nat} {cl : Cl} {H : Hp} (p0 : Bs) (hf : Fit lo cl H) {r : Int} (h : s56 N p0 = some r) : CallsR Tryd.prog (Kj lo) 56 [.str p0] H (cl) fun x H' cl' => x = .int .i64 r ∧ Kp [] H H' ∧ cl = cl' := by
 refine calls_by Tryd.func56 rfl rfl rfl ?_
 unfold s56 at h
 have hk0 : Kp [] H H := Kp.refl H
 refine C_seq ?_
 refine C_reg ?_
 refine oB (.int .i64 0) ?_
 refine O_nil ?_
 refine keep_to [(0, .str p0)] [] rfl rfl ?_
 refine C_seq ?_
 refine C_seq ?_
 refine C_reg ?_
 refine oB (.int .i64 1) ?_
 refine O_nil ?_
 refine keep_to [(0, .str p0), (3, .int .i64 1)] [] rfl rfl ?_
 refine C_block ?_
 obtain ⟨k162, hk163, h⟩ := jn_some h
 refine C_loopE [0, 3] (fun n env' H' sl' cl' => ∃ (v3 : Int), env' = [(0, .str p0), (3, .int .i64 v3)] ∧ sl' = [] ∧ cl = cl' ∧ Kp [] H H' ∧ s56_l0 N p0 k162 n v3 = some r) 0 [] (fun env' H' sl' cl' => ∃ (e161 : Unit), env' = [] ∧ sl' = [] ∧ cl = cl' ∧ Kp [] H H' ∧ k162 e161 = some r) N ⟨1, rfl, rfl, rfl, hk0, h⟩ ?_ ?_
 ·rintro n _ H164 _ _ ⟨v3, rfl, rfl, rfl, hk165, h⟩
  cases n with
  | zero => rw [s56_l0] at h; cases h
  | succ n =>
  rw [s56_l0] at h
  refine C_seq ?_
  refine C_seq ?_
  refine C_reg ?_
  refine oM (.int .i64 v3) ?_
  refine oP (.bool (decide ((v3 : Int) ≤ 8))) ?_
  refine O_nil ?_
  refine keep_to [(0, .str p0), (3, .int .i64 v3), (5, .bool (decide ((v3 : Int) ≤ 8)))] [] rfl rfl ?_
  refine C_cond (decide ((v3 : Int) ≤ 8)) rfl (fun hc166 => ?_) (fun hc166 => ?_)
  ·replace h := ocond_t h hc166
   refine C_skip ?_
   refine C_seq ?_
   refine C_block ?_
   refine C_seq ?_
   refine C_reg ?_
   refine oM (.int .i64 v3) ?_
   obtain ⟨x170, hx171, h⟩ := obind_some h
   refine oK [.int .i64 v3] (w46 N (lo := lo) v3 (hf.kp hk165) hx171) ?_
   rintro _ H167 _ ⟨rfl, hk168, rfl⟩
   have hk172 := hk165.trans hk168
   refine oM (.str p0) ?_
   refine oP (.bool ((x170 : Bs) == p0)) ?_
   refine O_nil ?_
   refine keep_to [(0, .str p0), (3, .int .i64 v3), (11, .bool ((x170 : Bs) == p0))] [] rfl rfl ?_
   refine C_cond ((x170 : Bs) == p0) rfl (fun hc173 => ?_) (fun hc173 => ?_)
   ·replace h := ocond_t h hc173
    refine C_seq ?_
    refine C_reg ?_
    refine oM (.int .i64 v3) ?_
    refine oA (.int .i64 v3) ?_
    refine O_nil ?_
    refine keep_to [(2, .int .i64 v3)] [] rfl rfl ?_
    refine C_ret ?_
    obtain rfl := Option.some.inj h
    exact ⟨_, rfl, rfl, hk172, rfl⟩
   ·replace h := ocond_f h hc173
    refine C_skip ?_
    refine C_reg ?_
    refine oM (.int .i64 v3) ?_
    refine oP (.int .i64 (IntKind.wrap .i64 (v3 + 1))) ?_
    refine oA (.int .i64 (IntKind.wrap .i64 (v3 + 1))) ?_
    refine O_nil ?_
    refine keep_to [(0, .str p0), (3, .int .i64 (IntKind.wrap .i64 (v3 + 1)))] [] rfl rfl ?_
    exact ⟨n, Nat.lt_succ_self n, (IntKind.wrap .i64 (v3 + 1)), rfl, rfl, rfl, hk172, h⟩
  ·replace h := ocond_f h hc166
   refine C_exit ?_
   exact ⟨_, rfl, rfl, rfl, hk165, h⟩
 ·rintro _ H174 _ _ ⟨e161, rfl, rfl, rfl, hk175, h⟩
  subst hk163
  refine C_seq ?_
  refine C_reg ?_
  refine oB (.int .i64 0) ?_
  refine O_nil ?_
  refine keep_to [(2, .int .i64 0)] [] rfl rfl ?_
  refine C_ret ?_
  obtain rfl := Option.some.inj h
  exact ⟨_, rfl, rfl, hk175, rfl⟩
/- freshet/freshetref24.operator -/
def s43 (N : Nat) (p0 : (Sl Bs)) : Option (T38 × Bool) :=
Option.bind (cond (decide ((Sl.len p0 : Int) < 5))
 (some true)
 (Option.bind (Sl.get p0 0) fun o280 =>
some (!((o280 : Bs) == [111, 112])))) fun (v277 : Bool) =>
cond (v277)
 (some ((T38.mk [] 0 0 0 0), false))
 (Option.bind (Sl.get p0 1) fun o297 =>
Option.bind (Sl.get p0 2) fun o299 =>
Option.bind (s56 N o299) fun x304 =>
jn (fun (v321 : (Int × Int × Int)) =>
some ((T38.mk o297 x304 v321.1 v321.2.1 v321.2.2), true)) fun k322 =>
Option.bind (Option.bind (Sl.get p0 3) fun o326 =>
cond ((o326 : Bs) == [116, 117, 109, 98, 108, 105, 110, 103])
 (some ((Sl.len p0 : Int) == 5))
 (some false)) fun (v324 : Bool) =>
cond (v324)
 (Option.bind (Sl.get p0 4) fun o334 =>
Option.bind (s44 N o334) fun x339 =>
k322 (1, x339, 0))
 (Option.bind (Option.bind (Sl.get p0 3) fun o351 =>
cond ((o351 : Bs) == [115, 108, 105, 100, 105, 110, 103])
 (some ((Sl.len p0 : Int) == 6))
 (some false)) fun (v349 : Bool) =>
cond (v349)
 (Option.bind (Sl.get p0 4) fun o361 =>
Option.bind (s44 N o361) fun x366 =>
Option.bind (Sl.get p0 5) fun o371 =>
Option.bind (s44 N o371) fun x376 =>
k322 (2, x366, x376))
 (Option.bind (Option.bind (Sl.get p0 3) fun o388 =>
cond ((o388 : Bs) == [115, 101, 115, 115, 105, 111, 110])
 (some ((Sl.len p0 : Int) == 5))
 (some false)) fun (v386 : Bool) =>
cond (v386)
 (Option.bind (Sl.get p0 4) fun o396 =>
Option.bind (s44 N o396) fun x401 =>
k322 (3, x401, 0))
 (some ((T38.mk [] 0 0 0 0), false)))))
set_option maxRecDepth 8000 in
set_option maxHeartbeats 4000000 in
theorem w43 (N : Nat) {lo : Nat} {cl : Cl} {H : Hp} (p0 : (Sl Bs)) (hf : Fit lo cl H) {r : (T38 × Bool)} (h : s43 N p0 = some r) : CallsR Tryd.prog (Kj lo) 43 [Sl.enc 9 AV.str p0] H (cl) fun x H' cl' => x = .tup [.agg [.str r.1.Name, .int .i64 r.1.Agg, .int .i64 r.1.Windows_Kind, .int .i64 r.1.Windows_Size, .int .i64 r.1.Windows_Slide], .bool r.2] ∧ Kp [] H H' ∧ cl = cl' := by
 refine calls_by Tryd.func43 rfl rfl rfl ?_
 unfold s43 at h
 have hk0 : Kp [] H H := Kp.refl H
 refine C_seq ?_
 refine C_reg ?_
 refine oZ [.str [], .int .i64 0, .int .i64 0, .int .i64 0, .int .i64 0] fun id272 H270 hi273 hH274 => ?_
 have hb271 : H270[id272]? = some (some ⟨38, [.str [], .int .i64 0, .int .i64 0, .int .i64 0, .int .i64 0]⟩) := getL hi273 hH274
 have ho275 := Own.mk2 hf hk0 (Nat.le_of_eq hi273)
 have hk276 := kpA hH274 hk0
 refine oB (.bool false) ?_
 refine O_nil ?_
 refine keep_to [(0, Sl.enc 9 AV.str p0), (2, .ptr id272 0)] [] rfl rfl ?_
 refine C_seq ?_
 obtain ⟨v277, h278, h⟩ := obind_some h
 refine C_join [0, 2, 13] (fun env' H' sl' cl' => env' = [(0, Sl.enc 9 AV.str p0), (2, .ptr id272 0), (13, .bool v277)] ∧ sl' = [] ∧ cl = cl' ∧ Kp [] H H' ∧ H'[id272]? = some (some ⟨38, [.str [], .int .i64 0, .int .i64 0, .int .i64 0, .int .i64 0]⟩)) ?_ ?_
 ·refine C_reg ?_
  refine oM (Sl.enc 9 AV.str p0) ?_
  refine oQ (.int .i64 (Sl.len p0)) (len_sl (f := AV.str) rfl rfl rfl rfl) ?_
  refine oP (.bool (decide ((Sl.len p0 : Int) < 5))) ?_
  rcases Bool.eq_false_or_eq_true (decide ((Sl.len p0 : Int) < 5)) with hg279 | hg279
  ·replace h278 := ocond_t h278 hg279
   refine O_move (sl' := []) (.bool true) rfl (congrArg (fun b => some (AV.bool b)) hg279) rfl rfl rfl ?_
   refine O_skip rfl rfl ?_
   refine O_skip rfl rfl ?_
   refine O_skip rfl rfl ?_
   refine O_skip rfl rfl ?_
   refine oP (.bool true) ?_
   refine O_nil ?_
   refine keep_to [(0, Sl.enc 9 AV.str p0), (2, .ptr id272 0), (13, .bool true)] [] rfl rfl ?_
   obtain rfl := Option.some.inj h278
   exact ⟨rfl, rfl, rfl, hk276, hb271⟩
  ·replace h278 := ocond_f h278 hg279
   refine O_move (sl' := []) (.bool false) rfl (congrArg (fun b => some (AV.bool b)) hg279) rfl rfl rfl ?_
   refine oM (Sl.enc 9 AV.str p0) ?_
   obtain ⟨o280, hx281, h278⟩ := obind_some h278
   refine oQ (.ept [.str o280] 0) (idx_sl (f := AV.str) rfl rfl rfl hx281) ?_
   refine oE (.str o280) ?_
   refine oP (.bool (!((o280 : Bs) == [111, 112]))) ?_
   refine oP (.bool (!((o280 : Bs) == [111, 112]))) ?_
   refine O_nil ?_
   refine keep_to [(0, Sl.enc 9 AV.str p0), (2, .ptr id272 0), (13, .bool (!((o280 : Bs) == [111, 112])))] [] rfl rfl ?_
   obtain rfl := Option.some.inj h278
   exact ⟨rfl, rfl, rfl, hk276, hb271⟩
 ·rintro _ H282 _ _ ⟨rfl, rfl, rfl, hk283, hb284⟩
  refine C_cond (v277) rfl (fun hc285 => ?_) (fun hc285 => ?_)
  ·replace h := ocond_t h hc285
   refine C_seq ?_
   refine C_reg ?_
   refine oP (.agg [.str [], .int .i64 0, .int .i64 0, .int .i64 0, .int .i64 0]) ?_
   refine O_store (sl' := []) (cl' := cl) (.agg [.str [], .int .i64 0, .int .i64 0, .int .i64 0, .int .i64 0]) rfl rfl rfl ho275.lo hb284 rfl rfl (fun q h => by cases h) (fun i o h => .inr ⟨h, fun e => ho275.cl i o h e.1⟩) fun H286 hH287 => ?_
   have hb288 : H286[id272]? = some (some ⟨38, [.str [], .int .i64 0, .int .i64 0, .int .i64 0, .int .i64 0]⟩) := getW hH287 hb284
   have hk289 := kpS hH287 ho275.ge hk283
   refine oB (.bool false) ?_
   refine O_nil ?_
   refine keep_to [(2, .ptr id272 0), (3, .bool false)] [] rfl rfl ?_
   refine C_ret ?_
   obtain rfl := Option.some.inj h
   exact ⟨_, (ress_two (resM_cons (resE_cell rfl hb288 rfl) (resM_cons rfl resM_nil))), rfl, hk289, rfl⟩
  ·replace h := ocond_f h hc285
   refine C_skip ?_
   refine C_seq ?_
   refine C_drawB none (m := true) (q := 1) rfl rfl rfl fun b290 H292 hb291 hH293 => ?_
   have hz294 : H292[b290 + 0]? = some none := getZ hH293 hb291 (by decide)
   have hb295 := getA hH293 hb284
   have hk296 := kpA hH293 hk283
   refine oM (Sl.enc 9 AV.str p0) ?_
   obtain ⟨o297, hx298, h⟩ := obind_some h
   refine oQ (.ept [.str o297] 0) (idx_sl (f := AV.str) rfl rfl rfl hx298) ?_
   refine oE (.str o297) ?_
   refine oM (Sl.enc 9 AV.str p0) ?_
   obtain ⟨o299, hx300, h⟩ := obind_some h
   refine oQ (.ept [.str o299] 0) (idx_sl (f := AV.str) rfl rfl rfl hx300) ?_
   refine oE (.str o299) ?_
   obtain ⟨x304, hx305, h⟩ := obind_some h
   refine O_call (sl' := []) [.str o299] rfl rfl rfl rfl (above_of (hf.kp hk296)) rfl rfl (w56 N (lo := (max lo H292.length)) o299 (hf.kp hk296).up hx305) ?_
   rintro _ H301 _ ⟨rfl, hk302, rfl⟩
   have hz306 : H301[b290 + 0]? = some none := hk302.get0 hz294
   have hb307 := hk302.get0 hb295
   have hk308 := hk296.trans hk302
   refine oP (.agg [.str o297, .int .i64 x304, .int .i64 0, .int .i64 0, .int .i64 0]) ?_
   refine O_allocD (sl' := []) (q := 0) [.str [], .int .i64 0, .int .i64 0, .int .i64 0, .int .i64 0] rfl rfl rfl rfl hz306 rfl rfl fun H309 hH311 => ?_
   have hb310 : H309[(b290 + 0)]? = some (some ⟨38, [.str [], .int .i64 0, .int .i64 0, .int .i64 0, .int .i64 0]⟩) := by subst hH311; exact get_set_same hz306 _
   have ho312 : Am.Own lo cl H (b290 + 0) := Own.mk2 hf hk283 (by omega)
   have hn313 : id272 ≠ (b290 + 0) := ne_of_lt hb284 (by omega)
   have hb314 := getS hH311 hn313 hb307
   have hk315 := kpS hH311 ho312.ge hk308
   refine O_store (sl' := []) (cl' := cl) (.agg [.str o297, .int .i64 x304, .int .i64 0, .int .i64 0, .int .i64 0]) rfl rfl rfl ho312.lo hb310 rfl rfl (fun q h => by cases h) (fun i o h => .inr ⟨h, fun e => ho312.cl i o h e.1⟩) fun H316 hH317 => ?_
   have hb318 : H316[(b290 + 0)]? = some (some ⟨38, [.str o297, .int .i64 x304, .int .i64 0, .int .i64 0, .int .i64 0]⟩) := getW hH317 hb310
   have hb319 := getS hH317 hn313 hb314
   have hk320 := kpS hH317 ho312.ge hk315
   refine O_nil ?_
   refine keep_to [(0, Sl.enc 9 AV.str p0), (2, .ptr id272 0), (4, .ptr (b290 + 0) 0)] [] rfl rfl ?_
   obtain ⟨k322, hk323, h⟩ := jn_some h
   refine C_join [2, 4] (fun env' H' sl' cl' => ∃ v321 : (Int × Int × Int), env' = [(2, .ptr id272 0), (4, .ptr (b290 + 0) 0)] ∧ sl' = [] ∧ cl = cl' ∧ Kp [] H H' ∧ H'[id272]? = some (some ⟨38, [.str [], .int .i64 0, .int .i64 0, .int .i64 0, .int .i64 0]⟩) ∧ H'[(b290 + 0)]? = some (some ⟨38, [.str o297, .int .i64 x304, .int .i64 v321.1, .int .i64 v321.2.1, .int .i64 v321.2.2]⟩) ∧ k322 v321 = some r) ?_ ?_
   ·obtain ⟨v324, h325, h⟩ := obind_some h
    refine C_join [0, 2, 4, 31] (fun env' H' sl' cl' => env' = [(0, Sl.enc 9 AV.str p0), (2, .ptr id272 0), (4, .ptr (b290 + 0) 0), (31, .bool v324)] ∧ sl' = [] ∧ cl = cl' ∧ Kp [] H H' ∧ H'[id272]? = some (some ⟨38, [.str [], .int .i64 0, .int .i64 0, .int .i64 0, .int .i64 0]⟩) ∧ H'[(b290 + 0)]? = some (some ⟨38, [.str o297, .int .i64 x304, .int .i64 0, .int .i64 0, .int .i64 0]⟩)) ?_ ?_
    ·refine C_reg ?_
     refine oM (Sl.enc 9 AV.str p0) ?_
     obtain ⟨o326, hx327, h325⟩ := obind_some h325
     refine oQ (.ept [.str o326] 0) (idx_sl (f := AV.str) rfl rfl rfl hx327) ?_
     refine oE (.str o326) ?_
     refine oP (.bool ((o326 : Bs) == [116, 117, 109, 98, 108, 105, 110, 103])) ?_
     rcases Bool.eq_false_or_eq_true ((o326 : Bs) == [116, 117, 109, 98, 108, 105, 110, 103]) with hg328 | hg328
     ·replace h325 := ocond_t h325 hg328
      refine O_move (sl' := []) (.bool true) rfl (congrArg (fun b => some (AV.bool b)) hg328) rfl rfl rfl ?_
      refine oM (Sl.enc 9 AV.str p0) ?_
      refine oQ (.int .i64 (Sl.len p0)) (len_sl (f := AV.str) rfl rfl rfl rfl) ?_
      refine oP (.bool ((Sl.len p0 : Int) == 5)) ?_
      refine oP (.bool ((Sl.len p0 : Int) == 5)) ?_
      refine O_nil ?_
      refine keep_to [(0, Sl.enc 9 AV.str p0), (2, .ptr id272 0), (4, .ptr (b290 + 0) 0), (31, .bool ((Sl.len p0 : Int) == 5))] [] rfl rfl ?_
      obtain rfl := Option.some.inj h325
      exact ⟨rfl, rfl, rfl, hk320, hb319, hb318⟩
     ·replace h325 := ocond_f h325 hg328
      refine O_move (sl' := []) (.bool false) rfl (congrArg (fun b => some (AV.bool b)) hg328) rfl rfl rfl ?_
      refine O_skip rfl rfl ?_
      refine O_skip rfl rfl ?_
      refine O_skip rfl rfl ?_
      refine oP (.bool false) ?_
      refine O_nil ?_
      refine keep_to [(0, Sl.enc 9 AV.str p0), (2, .ptr id272 0), (4, .ptr (b290 + 0) 0), (31, .bool false)] [] rfl rfl ?_
      obtain rfl := Option.some.inj h325
      exact ⟨rfl, rfl, rfl, hk320, hb319, hb318⟩
    ·rintro _ H329 _ _ ⟨rfl, rfl, rfl, hk330, hb331, hb332⟩
     refine C_cond (v324) rfl (fun hc333 => ?_) (fun hc333 => ?_)
     ·replace h := ocond_t h hc333
      refine C_reg ?_
      refine oM (Sl.enc 9 AV.str p0) ?_
      obtain ⟨o334, hx335, h⟩ := obind_some h
      refine oQ (.ept [.str o334] 0) (idx_sl (f := AV.str) rfl rfl rfl hx335) ?_
      refine oE (.str o334) ?_
      obtain ⟨x339, hx340, h⟩ := obind_some h
      refine oK [.str o334] (w44 N (lo := lo) o334 (hf.kp hk330) hx340) ?_
      rintro _ H336 _ ⟨rfl, hk337, rfl⟩
      have hb341 := hk337.get0 hb331
      have hb342 := hk337.get0 hb332
      have hk343 := hk330.trans hk337
      refine oP (.agg [.int .i64 1, .int .i64 x339, .int .i64 0]) ?_
      refine oP (.ptr (b290 + 0) 2) ?_
      refine O_store (sl' := []) (cl' := cl) (.agg [.int .i64 1, .int .i64 x339, .int .i64 0]) rfl rfl rfl ho312.lo hb342 rfl rfl (fun q h => by cases h) (fun i o h => .inr ⟨h, fun e => ho312.cl i o h e.1⟩) fun H344 hH345 => ?_
      have hb346 : H344[(b290 + 0)]? = some (some ⟨38, [.str o297, .int .i64 x304, .int .i64 1, .int .i64 x339, .int .i64 0]⟩) := getW hH345 hb342
      have hb347 := getS hH345 hn313 hb341
      have hk348 := kpS hH345 ho312.ge hk343
      refine O_nil ?_
      refine keep_to [(2, .ptr id272 0), (4, .ptr (b290 + 0) 0)] [] rfl rfl ?_
      exact ⟨_, rfl, rfl, rfl, hk348, hb347, hb346, h⟩
     ·replace h := ocond_f h hc333
      obtain ⟨v349, h350, h⟩ := obind_some h
      refine C_join [0, 2, 4, 46] (fun env' H' sl' cl' => env' = [(0, Sl.enc 9 AV.str p0), (2, .ptr id272 0), (4, .ptr (b290 + 0) 0), (46, .bool v349)] ∧ sl' = [] ∧ cl = cl' ∧ Kp [] H H' ∧ H'[id272]? = some (some ⟨38, [.str [], .int .i64 0, .int .i64 0, .int .i64 0, .int .i64 0]⟩) ∧ H'[(b290 + 0)]? = some (some ⟨38, [.str o297, .int .i64 x304, .int .i64 0, .int .i64 0, .int .i64 0]⟩)) ?_ ?_
      ·refine C_reg ?_
       refine oM (Sl.enc 9 AV.str p0) ?_
       obtain ⟨o351, hx352, h350⟩ := obind_some h350
       refine oQ (.ept [.str o351] 0) (idx_sl (f := AV.str) rfl rfl rfl hx352) ?_
       refine oE (.str o351) ?_
       refine oP (.bool ((o351 : Bs) == [115, 108, 105, 100, 105, 110, 103])) ?_
       rcases Bool.eq_false_or_eq_true ((o351 : Bs) == [115, 108, 105, 100, 105, 110, 103]) with hg353 | hg353
       ·replace h350 := ocond_t h350 hg353
        refine O_move (sl' := []) (.bool true) rfl (congrArg (fun b => some (AV.bool b)) hg353) rfl rfl rfl ?_
        refine oM (Sl.enc 9 AV.str p0) ?_
        refine oQ (.int .i64 (Sl.len p0)) (len_sl (f := AV.str) rfl rfl rfl rfl) ?_
        refine oP (.bool ((Sl.len p0 : Int) == 6)) ?_
        refine oP (.bool ((Sl.len p0 : Int) == 6)) ?_
        refine O_nil ?_
        refine keep_to [(0, Sl.enc 9 AV.str p0), (2, .ptr id272 0), (4, .ptr (b290 + 0) 0), (46, .bool ((Sl.len p0 : Int) == 6))] [] rfl rfl ?_
        obtain rfl := Option.some.inj h350
        exact ⟨rfl, rfl, rfl, hk330, hb331, hb332⟩
       ·replace h350 := ocond_f h350 hg353
        refine O_move (sl' := []) (.bool false) rfl (congrArg (fun b => some (AV.bool b)) hg353) rfl rfl rfl ?_
        refine O_skip rfl rfl ?_
        refine O_skip rfl rfl ?_
        refine O_skip rfl rfl ?_
        refine oP (.bool false) ?_
        refine O_nil ?_
        refine keep_to [(0, Sl.enc 9 AV.str p0), (2, .ptr id272 0), (4, .ptr (b290 + 0) 0), (46, .bool false)] [] rfl rfl ?_
        obtain rfl := Option.some.inj h350
        exact ⟨rfl, rfl, rfl, hk330, hb331, hb332⟩
      ·rintro _ H354 _ _ ⟨rfl, rfl, rfl, hk355, hb356, hb357⟩
       refine C_cond (v349) rfl (fun hc358 => ?_) (fun hc358 => ?_)
       ·replace h := ocond_t h hc358
        refine C_draw0 none (m := true) rfl rfl rfl fun b359 hb360 => ?_
        refine oM (Sl.enc 9 AV.str p0) ?_
        obtain ⟨o361, hx362, h⟩ := obind_some h
        refine oQ (.ept [.str o361] 0) (idx_sl (f := AV.str) rfl rfl rfl hx362) ?_
        refine oE (.str o361) ?_
        obtain ⟨x366, hx367, h⟩ := obind_some h
        refine O_call (sl' := []) [.str o361] rfl rfl rfl rfl (above_of (hf.kp hk355)) rfl rfl (w44 N (lo := (max lo H354.length)) o361 (hf.kp hk355).up hx367) ?_
        rintro _ H363 _ ⟨rfl, hk364, rfl⟩
        have hb368 := hk364.get0 hb356
        have hb369 := hk364.get0 hb357
        have hk370 := hk355.trans hk364
        refine oM (Sl.enc 9 AV.str p0) ?_
        obtain ⟨o371, hx372, h⟩ := obind_some h
        refine oQ (.ept [.str o371] 0) (idx_sl (f := AV.str) rfl rfl rfl hx372) ?_
        refine oE (.str o371) ?_
        obtain ⟨x376, hx377, h⟩ := obind_some h
        refine O_call (sl' := []) [.str o371] rfl rfl rfl rfl (above_of (hf.kp hk370)) rfl rfl (w44 N (lo := (max lo H363.length)) o371 (hf.kp hk370).up hx377) ?_
        rintro _ H373 _ ⟨rfl, hk374, rfl⟩
        have hb378 := hk374.get0 hb368
        have hb379 := hk374.get0 hb369
        have hk380 := hk370.trans hk374
        refine oP (.agg [.int .i64 2, .int .i64 x366, .int .i64 x376]) ?_
        refine oP (.ptr (b290 + 0) 2) ?_
        refine O_store (sl' := []) (cl' := cl) (.agg [.int .i64 2, .int .i64 x366, .int .i64 x376]) rfl rfl rfl ho312.lo hb379 rfl rfl (fun q h => by cases h) (fun i o h => .inr ⟨h, fun e => ho312.cl i o h e.1⟩) fun H381 hH382 => ?_
        have hb383 : H381[(b290 + 0)]? = some (some ⟨38, [.str o297, .int .i64 x304, .int .i64 2, .int .i64 x366, .int .i64 x376]⟩) := getW hH382 hb379
        have hb384 := getS hH382 hn313 hb378
        have hk385 := kpS hH382 ho312.ge hk380
        refine O_nil ?_
        refine keep_to [(2, .ptr id272 0), (4, .ptr (b290 + 0) 0)] [] rfl rfl ?_
        exact ⟨_, rfl, rfl, rfl, hk385, hb384, hb383, h⟩
       ·replace h := ocond_f h hc358
        obtain ⟨v386, h387, h⟩ := obind_some h
        refine C_join [0, 2, 4, 65] (fun env' H' sl' cl' => env' = [(0, Sl.enc 9 AV.str p0), (2, .ptr id272 0), (4, .ptr (b290 + 0) 0), (65, .bool v386)] ∧ sl' = [] ∧ cl = cl' ∧ Kp [] H H' ∧ H'[id272]? = some (some ⟨38, [.str [], .int .i64 0, .int .i64 0, .int .i64 0, .int .i64 0]⟩) ∧ H'[(b290 + 0)]? = some (some ⟨38, [.str o297, .int .i64 x304, .int .i64 0, .int .i64 0, .int .i64 0]⟩)) ?_ ?_
        ·refine C_reg ?_
         refine oM (Sl.enc 9 AV.str p0) ?_
         obtain ⟨o388, hx389, h387⟩ := obind_some h387
         refine oQ (.ept [.str o388] 0) (idx_sl (f := AV.str) rfl rfl rfl hx389) ?_
         refine oE (.str o388) ?_
         refine oP (.bool ((o388 : Bs) == [115, 101, 115, 115, 105, 111, 110])) ?_
         rcases Bool.eq_false_or_eq_true ((o388 : Bs) == [115, 101, 115, 115, 105, 111, 110]) with hg390 | hg390
         ·replace h387 := ocond_t h387 hg390
          refine O_move (sl' := []) (.bool true) rfl (congrArg (fun b => some (AV.bool b)) hg390) rfl rfl rfl ?_
          refine oM (Sl.enc 9 AV.str p0) ?_
          refine oQ (.int .i64 (Sl.len p0)) (len_sl (f := AV.str) rfl rfl rfl rfl) ?_
          refine oP (.bool ((Sl.len p0 : Int) == 5)) ?_
          refine oP (.bool ((Sl.len p0 : Int) == 5)) ?_
          refine O_nil ?_
          refine keep_to [(0, Sl.enc 9 AV.str p0), (2, .ptr id272 0), (4, .ptr (b290 + 0) 0), (65, .bool ((Sl.len p0 : Int) == 5))] [] rfl rfl ?_
          obtain rfl := Option.some.inj h387
          exact ⟨rfl, rfl, rfl, hk355, hb356, hb357⟩
         ·replace h387 := ocond_f h387 hg390
          refine O_move (sl' := []) (.bool false) rfl (congrArg (fun b => some (AV.bool b)) hg390) rfl rfl rfl ?_
          refine O_skip rfl rfl ?_
          refine O_skip rfl rfl ?_
          refine O_skip rfl rfl ?_
          refine oP (.bool false) ?_
          refine O_nil ?_
          refine keep_to [(0, Sl.enc 9 AV.str p0), (2, .ptr id272 0), (4, .ptr (b290 + 0) 0), (65, .bool false)] [] rfl rfl ?_
          obtain rfl := Option.some.inj h387
          exact ⟨rfl, rfl, rfl, hk355, hb356, hb357⟩
        ·rintro _ H391 _ _ ⟨rfl, rfl, rfl, hk392, hb393, hb394⟩
         refine C_cond (v386) rfl (fun hc395 => ?_) (fun hc395 => ?_)
         ·replace h := ocond_t h hc395
          refine C_reg ?_
          refine oM (Sl.enc 9 AV.str p0) ?_
          obtain ⟨o396, hx397, h⟩ := obind_some h
          refine oQ (.ept [.str o396] 0) (idx_sl (f := AV.str) rfl rfl rfl hx397) ?_
          refine oE (.str o396) ?_
          obtain ⟨x401, hx402, h⟩ := obind_some h
          refine oK [.str o396] (w44 N (lo := lo) o396 (hf.kp hk392) hx402) ?_
          rintro _ H398 _ ⟨rfl, hk399, rfl⟩
          have hb403 := hk399.get0 hb393
          have hb404 := hk399.get0 hb394
          have hk405 := hk392.trans hk399
          refine oP (.agg [.int .i64 3, .int .i64 x401, .int .i64 0]) ?_
          refine oP (.ptr (b290 + 0) 2) ?_
          refine O_store (sl' := []) (cl' := cl) (.agg [.int .i64 3, .int .i64 x401, .int .i64 0]) rfl rfl rfl ho312.lo hb404 rfl rfl (fun q h => by cases h) (fun i o h => .inr ⟨h, fun e => ho312.cl i o h e.1⟩) fun H406 hH407 => ?_
          have hb408 : H406[(b290 + 0)]? = some (some ⟨38, [.str o297, .int .i64 x304, .int .i64 3, .int .i64 x401, .int .i64 0]⟩) := getW hH407 hb404
          have hb409 := getS hH407 hn313 hb403
          have hk410 := kpS hH407 ho312.ge hk405
          refine O_nil ?_
          refine keep_to [(2, .ptr id272 0), (4, .ptr (b290 + 0) 0)] [] rfl rfl ?_
          exact ⟨_, rfl, rfl, rfl, hk410, hb409, hb408, h⟩
         ·replace h := ocond_f h hc395
          refine C_seq ?_
          refine C_reg ?_
          refine oP (.agg [.str [], .int .i64 0, .int .i64 0, .int .i64 0, .int .i64 0]) ?_
          refine O_store (sl' := []) (cl' := cl) (.agg [.str [], .int .i64 0, .int .i64 0, .int .i64 0, .int .i64 0]) rfl rfl rfl ho275.lo hb393 rfl rfl (fun q h => by cases h) (fun i o h => .inr ⟨h, fun e => ho275.cl i o h e.1⟩) fun H411 hH412 => ?_
          have hb413 : H411[id272]? = some (some ⟨38, [.str [], .int .i64 0, .int .i64 0, .int .i64 0, .int .i64 0]⟩) := getW hH412 hb393
          have hb414 := getS hH412 (fun e => hn313 e.symm) hb394
          have hk415 := kpS hH412 ho275.ge hk392
          refine oB (.bool false) ?_
          refine O_nil ?_
          refine keep_to [(2, .ptr id272 0), (3, .bool false)] [] rfl rfl ?_
          refine C_ret ?_
          obtain rfl := Option.some.inj h
          exact ⟨_, (ress_two (resM_cons (resE_cell rfl hb413 rfl) (resM_cons rfl resM_nil))), rfl, hk415, rfl⟩
   ·rintro _ H416 _ _ ⟨v321, rfl, rfl, rfl, hk417, hb418, hb419, h⟩
    subst hk323
    refine C_seq ?_
    refine C_reg ?_
    refine oL (.agg [.str o297, .int .i64 x304, .int .i64 v321.1, .int .i64 v321.2.1, .int .i64 v321.2.2]) hb419 ?_
    refine O_store (sl' := []) (cl' := cl) (.agg [.str o297, .int .i64 x304, .int .i64 v321.1, .int .i64 v321.2.1, .int .i64 v321.2.2]) rfl rfl rfl ho275.lo hb418 rfl rfl (fun q h => by cases h) (fun i o h => .inr ⟨h, fun e => ho275.cl i o h e.1⟩) fun H420 hH421 => ?_
    have hb422 : H420[id272]? = some (some ⟨38, [.str o297, .int .i64 x304, .int .i64 v321.1, .int .i64 v321.2.1, .int .i64 v321.2.2]⟩) := getW hH421 hb418
    have hb423 := getS hH421 (fun e => hn313 e.symm) hb419
    have hk424 := kpS hH421 ho275.ge hk417
    refine oB (.bool true) ?_
    refine O_nil ?_
    refine keep_to [(2, .ptr id272 0), (3, .bool true)] [] rfl rfl ?_
    refine C_ret ?_
    obtain rfl := Option.some.inj h
    exact ⟨_, (ress_two (resM_cons (resE_cell rfl hb422 rfl) (resM_cons rfl resM_nil))), rfl, hk424, rfl⟩
set_option linter.unusedVariables false in
def s34_l0 (N : Nat) (p0 : Bs) (k464 : Unit → Option Bool) : Nat → Int → Option Bool
  | 0, _ => none
  | n + 1, v3 => (
cond (decide ((v3 : Int) < ((List.length p0 : Nat) : Int)))
 (jn (fun (v469 : Unit) =>
s34_l0 N p0 k464 n (IntKind.wrap .i64 (v3 + 1))) fun k470 =>
Option.bind (Option.bind (strAt p0 v3) fun c474 =>
cond (decide ((c474 : Int) ≥ 97))
 (Option.bind (strAt p0 v3) fun c477 =>
some (decide ((c477 : Int) ≤ 122)))
 (some false)) fun (v472 : Bool) =>
Option.bind (Option.bind (strAt p0 v3) fun c483 =>
cond (decide ((c483 : Int) ≥ 48))
 (Option.bind (strAt p0 v3) fun c486 =>
some (decide ((c486 : Int) ≤ 57)))
 (some false)) fun (v481 : Bool) =>
cond (!v472)
 (cond ((v3 : Int) == 0)
 (some false)
 (cond (!v481)
 (some false)
 (k470 ())))
 (k470 ()))
 (k464 ()))
/- freshet/freshetref24.named -/
def s34 (N : Nat) (p0 : Bs) : Option Bool :=
cond (decide ((((List.length p0 : Nat) : Int) : Int) < 1))
 (some false)
 (cond (decide ((((List.length p0 : Nat) : Int) : Int) > 16))
 (some false)
 (jn (fun (e463 : Unit) =>
some true) fun k464 => s34_l0 N p0 k464 N 0))
set_option maxRecDepth 8000 in
set_option maxHeartbeats 4000000 in
theorem w34 (N : Nat) {lo : Nat} {cl : Cl} {H : Hp} (p0 : Bs) (hf : Fit lo cl H) {r : Bool} (h : s34 N p0 = some r) : CallsR Tryd.prog (Kj lo) 34 [.str p0] H (cl) fun x H' cl' => x = .bool r ∧ Kp [] H H' ∧ cl = cl' := by
 refine calls_by Tryd.func34 rfl rfl rfl ?_
 unfold s34 at h
 have hk0 : Kp [] H H := Kp.refl H
 refine C_seq ?_
 refine C_reg ?_
 refine oB (.bool false) ?_
 refine O_nil ?_
 refine keep_to [(0, .str p0)] [] rfl rfl ?_
 refine C_seq ?_
 refine C_seq ?_
 refine C_reg ?_
 refine oM (.str p0) ?_
 refine oP (.int .i64 ((List.length p0 : Nat) : Int)) ?_
 refine oP (.bool (decide ((((List.length p0 : Nat) : Int) : Int) < 1))) ?_
 rcases Bool.eq_false_or_eq_true (decide ((((List.length p0 : Nat) : Int) : Int) < 1)) with hg461 | hg461
 ·replace h := ocond_t h hg461
  refine O_move (sl' := []) (.bool true) rfl (congrArg (fun b => some (AV.bool b)) hg461) rfl rfl rfl ?_
  refine O_skip rfl rfl ?_
  refine O_skip rfl rfl ?_
  refine O_skip rfl rfl ?_
  refine oP (.bool true) ?_
  refine O_nil ?_
  refine keep_to [(0, .str p0), (13, .bool true)] [] rfl rfl ?_
  refine C_true rfl ?_
  refine C_seq ?_
  refine C_reg ?_
  refine oB (.bool false) ?_
  refine O_nil ?_
  refine keep_to [(2, .bool false)] [] rfl rfl ?_
  refine C_ret ?_
  obtain rfl := Option.some.inj h
  exact ⟨_, rfl, rfl, hk0, rfl⟩
 ·replace h := ocond_f h hg461
  refine O_move (sl' := []) (.bool false) rfl (congrArg (fun b => some (AV.bool b)) hg461) rfl rfl rfl ?_
  refine oM (.str p0) ?_
  refine oP (.int .i64 ((List.length p0 : Nat) : Int)) ?_
  refine oP (.bool (decide ((((List.length p0 : Nat) : Int) : Int) > 16))) ?_
  refine oP (.bool (decide ((((List.length p0 : Nat) : Int) : Int) > 16))) ?_
  refine O_nil ?_
  refine keep_to [(0, .str p0), (13, .bool (decide ((((List.length p0 : Nat) : Int) : Int) > 16)))] [] rfl rfl ?_
  refine C_cond (decide ((((List.length p0 : Nat) : Int) : Int) > 16)) rfl (fun hc462 => ?_) (fun hc462 => ?_)
  ·replace h := ocond_t h hc462
   refine C_seq ?_
   refine C_reg ?_
   refine oB (.bool false) ?_
   refine O_nil ?_
   refine keep_to [(2, .bool false)] [] rfl rfl ?_
   refine C_ret ?_
   obtain rfl := Option.some.inj h
   exact ⟨_, rfl, rfl, hk0, rfl⟩
  ·replace h := ocond_f h hc462
   refine C_skip ?_
   refine C_seq ?_
   refine C_seq ?_
   refine C_reg ?_
   refine oB (.int .i64 0) ?_
   refine O_nil ?_
   refine keep_to [(0, .str p0), (3, .int .i64 0)] [] rfl rfl ?_
   refine C_block ?_
   obtain ⟨k464, hk465, h⟩ := jn_some h
   refine C_loopE [0, 3] (fun n env' H' sl' cl' => ∃ (v3 : Int), env' = [(0, .str p0), (3, .int .i64 v3)] ∧ sl' = [] ∧ cl = cl' ∧ Kp [] H H' ∧ s34_l0 N p0 k464 n v3 = some r) 0 [] (fun env' H' sl' cl' => ∃ (e463 : Unit), env' = [] ∧ sl' = [] ∧ cl = cl' ∧ Kp [] H H' ∧ k464 e463 = some r) N ⟨0, rfl, rfl, rfl, hk0, h⟩ ?_ ?_
   ·rintro n _ H466 _ _ ⟨v3, rfl, rfl, rfl, hk467, h⟩
    cases n with
    | zero => rw [s34_l0] at h; cases h
    | succ n =>
    rw [s34_l0] at h
    refine C_seq ?_
    refine C_seq ?_
    refine C_reg ?_
    refine oM (.int .i64 v3) ?_
    refine oM (.str p0) ?_
    refine oP (.int .i64 ((List.length p0 : Nat) : Int)) ?_
    refine oP (.bool (decide ((v3 : Int) < ((List.length p0 : Nat) : Int)))) ?_
    refine O_nil ?_
    refine keep_to [(0, .str p0), (3, .int .i64 v3), (17, .bool (decide ((v3 : Int) < ((List.length p0 : Nat) : Int))))] [] rfl rfl ?_
    refine C_cond (decide ((v3 : Int) < ((List.length p0 : Nat) : Int))) rfl (fun hc468 => ?_) (fun hc468 => ?_)
    ·replace h := ocond_t h hc468
     refine C_skip ?_
     obtain ⟨k470, hk471, h⟩ := jn_some h
     refine C_join [0, 3] (fun env' H' sl' cl' => ∃ v469 : Unit, env' = [(0, .str p0), (3, .int .i64 v3)] ∧ sl' = [] ∧ cl = cl' ∧ Kp [] H H' ∧ k470 v469 = some r) ?_ ?_
     ·refine C_block ?_
      obtain ⟨v472, h473, h⟩ := obind_some h
      refine C_join [0, 3, 4] (fun env' H' sl' cl' => env' = [(0, .str p0), (3, .int .i64 v3), (4, .bool v472)] ∧ sl' = [] ∧ cl = cl' ∧ Kp [] H H') ?_ ?_
      ·refine C_reg ?_
       refine oM (.str p0) ?_
       refine oM (.int .i64 v3) ?_
       obtain ⟨c474, hx475, h473⟩ := obind_some h473
       refine oQ (.int .u8 c474) (idx_strI rfl rfl rfl hx475) ?_
       refine oP (.bool (decide ((c474 : Int) ≥ 97))) ?_
       rcases Bool.eq_false_or_eq_true (decide ((c474 : Int) ≥ 97)) with hg476 | hg476
       ·replace h473 := ocond_t h473 hg476
        refine O_move (sl' := []) (.bool true) rfl (congrArg (fun b => some (AV.bool b)) hg476) rfl rfl rfl ?_
        refine oM (.str p0) ?_
        refine oM (.int .i64 v3) ?_
        obtain ⟨c477, hx478, h473⟩ := obind_some h473
        refine oQ (.int .u8 c477) (idx_strI rfl rfl rfl hx478) ?_
        refine oP (.bool (decide ((c477 : Int) ≤ 122))) ?_
        refine oP (.bool (decide ((c477 : Int) ≤ 122))) ?_
        refine oA (.bool (decide ((c477 : Int) ≤ 122))) ?_
        refine O_nil ?_
        refine keep_to [(0, .str p0), (3, .int .i64 v3), (4, .bool (decide ((c477 : Int) ≤ 122)))] [] rfl rfl ?_
        obtain rfl := Option.some.inj h473
        exact ⟨rfl, rfl, rfl, hk467⟩
       ·replace h473 := ocond_f h473 hg476
        refine O_move (sl' := []) (.bool false) rfl (congrArg (fun b => some (AV.bool b)) hg476) rfl rfl rfl ?_
        refine O_skip rfl rfl ?_
        refine O_skip rfl rfl ?_
        refine O_skip rfl rfl ?_
        refine O_skip rfl rfl ?_
        refine oP (.bool false) ?_
        refine oA (.bool false) ?_
        refine O_nil ?_
        refine keep_to [(0, .str p0), (3, .int .i64 v3), (4, .bool false)] [] rfl rfl ?_
        obtain rfl := Option.some.inj h473
        exact ⟨rfl, rfl, rfl, hk467⟩
      ·rintro _ H479 _ _ ⟨rfl, rfl, rfl, hk480⟩
       obtain ⟨v481, h482, h⟩ := obind_some h
       refine C_join [0, 3, 4, 5] (fun env' H' sl' cl' => env' = [(0, .str p0), (3, .int .i64 v3), (4, .bool v472), (5, .bool v481)] ∧ sl' = [] ∧ cl = cl' ∧ Kp [] H H') ?_ ?_
       ·refine C_reg ?_
        refine oM (.str p0) ?_
        refine oM (.int .i64 v3) ?_
        obtain ⟨c483, hx484, h482⟩ := obind_some h482
        refine oQ (.int .u8 c483) (idx_strI rfl rfl rfl hx484) ?_
        refine oP (.bool (decide ((c483 : Int) ≥ 48))) ?_
        rcases Bool.eq_false_or_eq_true (decide ((c483 : Int) ≥ 48)) with hg485 | hg485
        ·replace h482 := ocond_t h482 hg485
         refine O_move (sl' := []) (.bool true) rfl (congrArg (fun b => some (AV.bool b)) hg485) rfl rfl rfl ?_
         refine oM (.str p0) ?_
         refine oM (.int .i64 v3) ?_
         obtain ⟨c486, hx487, h482⟩ := obind_some h482
         refine oQ (.int .u8 c486) (idx_strI rfl rfl rfl hx487) ?_
         refine oP (.bool (decide ((c486 : Int) ≤ 57))) ?_
         refine oP (.bool (decide ((c486 : Int) ≤ 57))) ?_
         refine oA (.bool (decide ((c486 : Int) ≤ 57))) ?_
         refine O_nil ?_
         refine keep_to [(0, .str p0), (3, .int .i64 v3), (4, .bool v472), (5, .bool (decide ((c486 : Int) ≤ 57)))] [] rfl rfl ?_
         obtain rfl := Option.some.inj h482
         exact ⟨rfl, rfl, rfl, hk480⟩
        ·replace h482 := ocond_f h482 hg485
         refine O_move (sl' := []) (.bool false) rfl (congrArg (fun b => some (AV.bool b)) hg485) rfl rfl rfl ?_
         refine O_skip rfl rfl ?_
         refine O_skip rfl rfl ?_
         refine O_skip rfl rfl ?_
         refine O_skip rfl rfl ?_
         refine oP (.bool false) ?_
         refine oA (.bool false) ?_
         refine O_nil ?_
         refine keep_to [(0, .str p0), (3, .int .i64 v3), (4, .bool v472), (5, .bool false)] [] rfl rfl ?_
         obtain rfl := Option.some.inj h482
         exact ⟨rfl, rfl, rfl, hk480⟩
       ·rintro _ H488 _ _ ⟨rfl, rfl, rfl, hk489⟩
        refine C_seq ?_
        refine C_reg ?_
        refine oM (.bool v472) ?_
        refine oP (.bool (!v472)) ?_
        rcases Bool.eq_false_or_eq_true (!v472) with hg490 | hg490
        ·replace h := ocond_t h hg490
         refine O_move (sl' := []) (.bool true) rfl (congrArg (fun b => some (AV.bool b)) hg490) rfl rfl rfl ?_
         refine oM (.int .i64 v3) ?_
         refine oP (.bool ((v3 : Int) == 0)) ?_
         rcases Bool.eq_false_or_eq_true ((v3 : Int) == 0) with hg491 | hg491
         ·replace h := ocond_t h hg491
          refine O_move (sl' := []) (.bool true) rfl (congrArg (fun b => some (AV.bool b)) hg491) rfl rfl rfl ?_
          refine O_skip rfl rfl ?_
          refine O_skip rfl rfl ?_
          refine oP (.bool true) ?_
          refine oP (.bool true) ?_
          refine O_nil ?_
          refine keep_to [(0, .str p0), (3, .int .i64 v3), (49, .bool true)] [] rfl rfl ?_
          refine C_true rfl ?_
          refine C_seq ?_
          refine C_reg ?_
          refine oB (.bool false) ?_
          refine O_nil ?_
          refine keep_to [(2, .bool false)] [] rfl rfl ?_
          refine C_ret ?_
          obtain rfl := Option.some.inj h
          exact ⟨_, rfl, rfl, hk489, rfl⟩
         ·replace h := ocond_f h hg491
          refine O_move (sl' := []) (.bool false) rfl (congrArg (fun b => some (AV.bool b)) hg491) rfl rfl rfl ?_
          refine oM (.bool v481) ?_
          refine oP (.bool (!v481)) ?_
          refine oP (.bool (!v481)) ?_
          refine oP (.bool (!v481)) ?_
          refine O_nil ?_
          refine keep_to [(0, .str p0), (3, .int .i64 v3), (49, .bool (!v481))] [] rfl rfl ?_
          refine C_cond (!v481) rfl (fun hc492 => ?_) (fun hc492 => ?_)
          ·replace h := ocond_t h hc492
           refine C_seq ?_
           refine C_reg ?_
           refine oB (.bool false) ?_
           refine O_nil ?_
           refine keep_to [(2, .bool false)] [] rfl rfl ?_
           refine C_ret ?_
           obtain rfl := Option.some.inj h
           exact ⟨_, rfl, rfl, hk489, rfl⟩
          ·replace h := ocond_f h hc492
           refine C_skip ?_
           exact ⟨_, rfl, rfl, rfl, hk489, h⟩
        ·replace h := ocond_f h hg490
         refine O_move (sl' := []) (.bool false) rfl (congrArg (fun b => some (AV.bool b)) hg490) rfl rfl rfl ?_
         refine O_skip rfl rfl ?_
         refine O_skip rfl rfl ?_
         refine O_skip rfl rfl ?_
         refine O_skip rfl rfl ?_
         refine O_skip rfl rfl ?_
         refine O_skip rfl rfl ?_
         refine oP (.bool false) ?_
         refine O_nil ?_
         refine keep_to [(0, .str p0), (3, .int .i64 v3), (49, .bool false)] [] rfl rfl ?_
         refine C_false rfl ?_
         refine C_skip ?_
         exact ⟨_, rfl, rfl, rfl, hk489, h⟩
     ·rintro _ H493 _ _ ⟨v469, rfl, rfl, rfl, hk494, h⟩
      subst hk471
      refine C_reg ?_
      refine oM (.int .i64 v3) ?_
      refine oP (.int .i64 (IntKind.wrap .i64 (v3 + 1))) ?_
      refine oA (.int .i64 (IntKind.wrap .i64 (v3 + 1))) ?_
      refine O_nil ?_
      refine keep_to [(0, .str p0), (3, .int .i64 (IntKind.wrap .i64 (v3 + 1)))] [] rfl rfl ?_
      exact ⟨n, Nat.lt_succ_self n, (IntKind.wrap .i64 (v3 + 1)), rfl, rfl, rfl, hk494, h⟩
    ·replace h := ocond_f h hc468
     refine C_exit ?_
     exact ⟨_, rfl, rfl, rfl, hk467, h⟩
   ·rintro _ H495 _ _ ⟨e463, rfl, rfl, rfl, hk496, h⟩
    subst hk465
    refine C_seq ?_
    refine C_reg ?_
    refine oB (.bool true) ?_
    refine O_nil ?_
    refine keep_to [(2, .bool true)] [] rfl rfl ?_
    refine C_ret ?_
    obtain rfl := Option.some.inj h
    exact ⟨_, rfl, rfl, hk496, rfl⟩
/- freshet/freshetref21.Check -/
def s35 (N : Nat) (p0 : T36) : Option Int :=
cond (decide ((p0.Size : Int) < 1))
 (some 2)
 (cond (decide ((p0.Size : Int) > 1099511627776))
 (some 2)
 (cond ((p0.Kind : Int) == 2)
 (cond (decide ((p0.Slide : Int) < 1))
 (some 2)
 (cond (decide ((p0.Slide : Int) > 1099511627776))
 (some 2)
 (cond (decide ((p0.Size : Int) > IntKind.wrap .i64 (8 * p0.Slide)))
 (some 2)
 (some 0))))
 (cond ((p0.Kind : Int) != 1)
 (cond ((p0.Kind : Int) != 3)
 (some 2)
 (cond ((p0.Slide : Int) != 0)
 (some 2)
 (some 0)))
 (cond ((p0.Slide : Int) != 0)
 (some 2)
 (some 0)))))
set_option maxRecDepth 8000 in
set_option maxHeartbeats 4000000 in
theorem w35 (N : Nat) {lo : Nat} {cl : Cl} {H : Hp} (p0 : T36) (hf : Fit lo cl H) {r : Int} (h : s35 N p0 = some r) : CallsR Tryd.prog (Kj lo) 35 [.agg [.int .i64 p0.Kind, .int .i64 p0.Size, .int .i64 p0.Slide]] H (cl) fun x H' cl' => x = .int .i64 r ∧ Kp [] H H' ∧ cl = cl' := by
 refine calls_by Tryd.func35 rfl rfl rfl ?_
 unfold s35 at h
 have hk0 : Kp [] H H := Kp.refl H
 refine C_seq ?_
 refine C_reg ?_
 refine oN (.agg [.int .i64 p0.Kind, .int .i64 p0.Size, .int .i64 p0.Slide]) fun id516 H514 hi517 hH518 => ?_
 have hb515 : H514[id516]? = some (some ⟨36, [.int .i64 p0.Kind, .int .i64 p0.Size, .int .i64 p0.Slide]⟩) := getL hi517 hH518
 have ho519 := Own.mk2 hf hk0 (Nat.le_of_eq hi517)
 have hk520 := kpA hH518 hk0
 refine oB (.int .i64 0) ?_
 refine O_nil ?_
 refine keep_to [(1, .ptr id516 0)] [] rfl rfl ?_
 refine C_seq ?_
 refine C_seq ?_
 refine C_reg ?_
 refine oP (.ptr id516 1) ?_
 refine oL (.int .i64 p0.Size) hb515 ?_
 refine oP (.bool (decide ((p0.Size : Int) < 1))) ?_
 rcases Bool.eq_false_or_eq_true (decide ((p0.Size : Int) < 1)) with hg521 | hg521
 ·replace h := ocond_t h hg521
  refine O_move (sl' := []) (.bool true) rfl (congrArg (fun b => some (AV.bool b)) hg521) rfl rfl rfl ?_
  refine O_skip rfl rfl ?_
  refine O_skip rfl rfl ?_
  refine O_skip rfl rfl ?_
  refine oP (.bool true) ?_
  refine O_nil ?_
  refine keep_to [(1, .ptr id516 0), (10, .bool true)] [] rfl rfl ?_
  refine C_true rfl ?_
  refine C_seq ?_
  refine C_reg ?_
  refine oB (.int .i64 2) ?_
  refine O_nil ?_
  refine keep_to [(2, .int .i64 2)] [] rfl rfl ?_
  refine C_ret ?_
  obtain rfl := Option.some.inj h
  exact ⟨_, rfl, rfl, hk520, rfl⟩
 ·replace h := ocond_f h hg521
  refine O_move (sl' := []) (.bool false) rfl (congrArg (fun b => some (AV.bool b)) hg521) rfl rfl rfl ?_
  refine oP (.ptr id516 1) ?_
  refine oL (.int .i64 p0.Size) hb515 ?_
  refine oP (.bool (decide ((p0.Size : Int) > 1099511627776))) ?_
  refine oP (.bool (decide ((p0.Size : Int) > 1099511627776))) ?_
  refine O_nil ?_
  refine keep_to [(1, .ptr id516 0), (10, .bool (decide ((p0.Size : Int) > 1099511627776)))] [] rfl rfl ?_
  refine C_cond (decide ((p0.Size : Int) > 1099511627776)) rfl (fun hc522 => ?_) (fun hc522 => ?_)
  ·replace h := ocond_t h hc522
   refine C_seq ?_
   refine C_reg ?_
   refine oB (.int .i64 2) ?_
   refine O_nil ?_
   refine keep_to [(2, .int .i64 2)] [] rfl rfl ?_
   refine C_ret ?_
   obtain rfl := Option.some.inj h
   exact ⟨_, rfl, rfl, hk520, rfl⟩
  ·replace h := ocond_f h hc522
   refine C_skip ?_
   refine C_seq ?_
   refine C_seq ?_
   refine C_reg ?_
   refine oP (.ptr id516 0) ?_
   refine oL (.int .i64 p0.Kind) hb515 ?_
   refine oP (.bool ((p0.Kind : Int) == 2)) ?_
   refine O_nil ?_
   refine keep_to [(1, .ptr id516 0), (13, .bool ((p0.Kind : Int) == 2))] [] rfl rfl ?_
   refine C_cond ((p0.Kind : Int) == 2) rfl (fun hc523 => ?_) (fun hc523 => ?_)
   ·replace h := ocond_t h hc523
    refine C_seq ?_
    refine C_seq ?_
    refine C_reg ?_
    refine oP (.ptr id516 2) ?_
    refine oL (.int .i64 p0.Slide) hb515 ?_
    refine oP (.bool (decide ((p0.Slide : Int) < 1))) ?_
    rcases Bool.eq_false_or_eq_true (decide ((p0.Slide : Int) < 1)) with hg524 | hg524
    ·replace h := ocond_t h hg524
     refine O_move (sl' := []) (.bool true) rfl (congrArg (fun b => some (AV.bool b)) hg524) rfl rfl rfl ?_
     refine O_skip rfl rfl ?_
     refine O_skip rfl rfl ?_
     refine O_skip rfl rfl ?_
     refine oP (.bool true) ?_
     refine oM (.bool true) ?_
     refine O_skip rfl rfl ?_
     refine O_skip rfl rfl ?_
     refine O_skip rfl rfl ?_
     refine O_skip rfl rfl ?_
     refine O_skip rfl rfl ?_
     refine O_skip rfl rfl ?_
     refine oP (.bool true) ?_
     refine O_nil ?_
     refine keep_to [(29, .bool true)] [] rfl rfl ?_
     refine C_true rfl ?_
     refine C_seq ?_
     refine C_reg ?_
     refine oB (.int .i64 2) ?_
     refine O_nil ?_
     refine keep_to [(2, .int .i64 2)] [] rfl rfl ?_
     refine C_ret ?_
     obtain rfl := Option.some.inj h
     exact ⟨_, rfl, rfl, hk520, rfl⟩
    ·replace h := ocond_f h hg524
     refine O_move (sl' := []) (.bool false) rfl (congrArg (fun b => some (AV.bool b)) hg524) rfl rfl rfl ?_
     refine oP (.ptr id516 2) ?_
     refine oL (.int .i64 p0.Slide) hb515 ?_
     refine oP (.bool (decide ((p0.Slide : Int) > 1099511627776))) ?_
     refine oP (.bool (decide ((p0.Slide : Int) > 1099511627776))) ?_
     rcases Bool.eq_false_or_eq_true (decide ((p0.Slide : Int) > 1099511627776)) with hg525 | hg525
     ·replace h := ocond_t h hg525
      refine O_move (sl' := []) (.bool true) rfl (congrArg (fun b => some (AV.bool b)) hg525) rfl rfl rfl ?_
      refine O_skip rfl rfl ?_
      refine O_skip rfl rfl ?_
      refine O_skip rfl rfl ?_
      refine O_skip rfl rfl ?_
      refine O_skip rfl rfl ?_
      refine O_skip rfl rfl ?_
      refine oP (.bool true) ?_
      refine O_nil ?_
      refine keep_to [(29, .bool true)] [] rfl rfl ?_
      refine C_true rfl ?_
      refine C_seq ?_
      refine C_reg ?_
      refine oB (.int .i64 2) ?_
      refine O_nil ?_
      refine keep_to [(2, .int .i64 2)] [] rfl rfl ?_
      refine C_ret ?_
      obtain rfl := Option.some.inj h
      exact ⟨_, rfl, rfl, hk520, rfl⟩
     ·replace h := ocond_f h hg525
      refine O_move (sl' := []) (.bool false) rfl (congrArg (fun b => some (AV.bool b)) hg525) rfl rfl rfl ?_
      refine oP (.ptr id516 1) ?_
      refine oL (.int .i64 p0.Size) hb515 ?_
      refine oP (.ptr id516 2) ?_
      refine oL (.int .i64 p0.Slide) hb515 ?_
      refine oP (.int .i64 (IntKind.wrap .i64 (8 * p0.Slide))) ?_
      refine oP (.bool (decide ((p0.Size : Int) > IntKind.wrap .i64 (8 * p0.Slide)))) ?_
      refine oP (.bool (decide ((p0.Size : Int) > IntKind.wrap .i64 (8 * p0.Slide)))) ?_
      refine O_nil ?_
      refine keep_to [(29, .bool (decide ((p0.Size : Int) > IntKind.wrap .i64 (8 * p0.Slide))))] [] rfl rfl ?_
      refine C_cond (decide ((p0.Size : Int) > IntKind.wrap .i64 (8 * p0.Slide))) rfl (fun hc526 => ?_) (fun hc526 => ?_)
      ·replace h := ocond_t h hc526
       refine C_seq ?_
       refine C_reg ?_
       refine oB (.int .i64 2) ?_
       refine O_nil ?_
       refine keep_to [(2, .int .i64 2)] [] rfl rfl ?_
       refine C_ret ?_
       obtain rfl := Option.some.inj h
       exact ⟨_, rfl, rfl, hk520, rfl⟩
      ·replace h := ocond_f h hc526
       refine C_skip ?_
       refine C_seq ?_
       refine C_reg ?_
       refine oB (.int .i64 0) ?_
       refine O_nil ?_
       refine keep_to [(2, .int .i64 0)] [] rfl rfl ?_
       refine C_ret ?_
       obtain rfl := Option.some.inj h
       exact ⟨_, rfl, rfl, hk520, rfl⟩
   ·replace h := ocond_f h hc523
    refine C_skip ?_
    refine C_seq ?_
    refine C_seq ?_
    refine C_reg ?_
    refine oP (.ptr id516 0) ?_
    refine oL (.int .i64 p0.Kind) hb515 ?_
    refine oP (.bool ((p0.Kind : Int) != 1)) ?_
    rcases Bool.eq_false_or_eq_true ((p0.Kind : Int) != 1) with hg527 | hg527
    ·replace h := ocond_t h hg527
     refine O_move (sl' := []) (.bool true) rfl (congrArg (fun b => some (AV.bool b)) hg527) rfl rfl rfl ?_
     refine oP (.ptr id516 0) ?_
     refine oL (.int .i64 p0.Kind) hb515 ?_
     refine oP (.bool ((p0.Kind : Int) != 3)) ?_
     refine oP (.bool ((p0.Kind : Int) != 3)) ?_
     rcases Bool.eq_false_or_eq_true ((p0.Kind : Int) != 3) with hg528 | hg528
     ·replace h := ocond_t h hg528
      refine O_move (sl' := []) (.bool true) rfl (congrArg (fun b => some (AV.bool b)) hg528) rfl rfl rfl ?_
      refine O_skip rfl rfl ?_
      refine O_skip rfl rfl ?_
      refine O_skip rfl rfl ?_
      refine oP (.bool true) ?_
      refine O_nil ?_
      refine keep_to [(42, .bool true)] [] rfl rfl ?_
      refine C_true rfl ?_
      refine C_seq ?_
      refine C_reg ?_
      refine oB (.int .i64 2) ?_
      refine O_nil ?_
      refine keep_to [(2, .int .i64 2)] [] rfl rfl ?_
      refine C_ret ?_
      obtain rfl := Option.some.inj h
      exact ⟨_, rfl, rfl, hk520, rfl⟩
     ·replace h := ocond_f h hg528
      refine O_move (sl' := []) (.bool false) rfl (congrArg (fun b => some (AV.bool b)) hg528) rfl rfl rfl ?_
      refine oP (.ptr id516 2) ?_
      refine oL (.int .i64 p0.Slide) hb515 ?_
      refine oP (.bool ((p0.Slide : Int) != 0)) ?_
      refine oP (.bool ((p0.Slide : Int) != 0)) ?_
      refine O_nil ?_
      refine keep_to [(42, .bool ((p0.Slide : Int) != 0))] [] rfl rfl ?_
      refine C_cond ((p0.Slide : Int) != 0) rfl (fun hc529 => ?_) (fun hc529 => ?_)
      ·replace h := ocond_t h hc529
       refine C_seq ?_
       refine C_reg ?_
       refine oB (.int .i64 2) ?_
       refine O_nil ?_
       refine keep_to [(2, .int .i64 2)] [] rfl rfl ?_
       refine C_ret ?_
       obtain rfl := Option.some.inj h
       exact ⟨_, rfl, rfl, hk520, rfl⟩
      ·replace h := ocond_f h hc529
       refine C_skip ?_
       refine C_seq ?_
       refine C_reg ?_
       refine oB (.int .i64 0) ?_
       refine O_nil ?_
       refine keep_to [(2, .int .i64 0)] [] rfl rfl ?_
       refine C_ret ?_
       obtain rfl := Option.some.inj h
       exact ⟨_, rfl, rfl, hk520, rfl⟩
    ·replace h := ocond_f h hg527
     refine O_move (sl' := []) (.bool false) rfl (congrArg (fun b => some (AV.bool b)) hg527) rfl rfl rfl ?_
     refine O_skip rfl rfl ?_
     refine O_skip rfl rfl ?_
     refine O_skip rfl rfl ?_
     refine oP (.bool false) ?_
     refine oM (.bool false) ?_
     refine oP (.ptr id516 2) ?_
     refine oL (.int .i64 p0.Slide) hb515 ?_
     refine oP (.bool ((p0.Slide : Int) != 0)) ?_
     refine oP (.bool ((p0.Slide : Int) != 0)) ?_
     refine O_nil ?_
     refine keep_to [(42, .bool ((p0.Slide : Int) != 0))] [] rfl rfl ?_
     refine C_cond ((p0.Slide : Int) != 0) rfl (fun hc530 => ?_) (fun hc530 => ?_)
     ·replace h := ocond_t h hc530
      refine C_seq ?_
      refine C_reg ?_
      refine oB (.int .i64 2) ?_
      refine O_nil ?_
      refine keep_to [(2, .int .i64 2)] [] rfl rfl ?_
      refine C_ret ?_
      obtain rfl := Option.some.inj h
      exact ⟨_, rfl, rfl, hk520, rfl⟩
     ·replace h := ocond_f h hc530
      refine C_skip ?_
      refine C_seq ?_
      refine C_reg ?_
      refine oB (.int .i64 0) ?_
      refine O_nil ?_
      refine keep_to [(2, .int .i64 0)] [] rfl rfl ?_
      refine C_ret ?_
      obtain rfl := Option.some.inj h
      exact ⟨_, rfl, rfl, hk520, rfl⟩
set_option linter.unusedVariables false in
def s16_l1 (N : Nat) (p0 : T25) (v3 : Int) (o633 : T38) (k670 : Unit → Option Int) : Nat → Int → Option Int
  | 0, _ => none
  | n + 1, v5l1 => (
cond (decide ((v5l1 : Int) < v3))
 (Option.bind (Sl.get p0.Ops v5l1) fun o679 =>
cond ((o679.Name : Bs) == o633.Name)
 (some 2)
 (s16_l1 N p0 v3 o633 k670 n (IntKind.wrap .i64 (v5l1 + 1))))
 (k670 ()))
set_option linter.unusedVariables false in
def s16_l0 (N : Nat) (p0 : T25) (k627 : Unit → Option Int) : Nat → Int → Option Int
  | 0, _ => none
  | n + 1, v3 => (
cond (decide ((v3 : Int) < Sl.len p0.Ops))
 (Option.bind (Sl.get p0.Ops v3) fun o633 =>
Option.bind (s34 N o633.Name) fun x652 =>
cond (!x652)
 (some 2)
 (cond (decide ((o633.Agg : Int) < 1))
 (some 2)
 (cond (decide ((o633.Agg : Int) > 8))
 (some 2)
 (Option.bind (s35 N (T36.mk o633.Windows_Kind o633.Windows_Size o633.Windows_Slide)) fun x663 =>
cond ((x663 : Int) != 0)
 (some 2)
 (jn (fun (e669 : Unit) =>
s16_l0 N p0 k627 n (IntKind.wrap .i64 (v3 + 1))) fun k670 => s16_l1 N p0 v3 o633 k670 N 0)))))
 (k627 ()))
/- freshet/freshetref24.Check -/
def s16 (N : Nat) (p0 : T25) : Option Int :=
cond (decide ((p0.Groups : Int) < 1))
 (some 2)
 (cond (decide ((p0.Groups : Int) > 64))
 (some 2)
 (cond (decide ((p0.Sources : Int) < 1))
 (some 2)
 (cond (decide ((p0.Sources : Int) > 16))
 (some 2)
 (cond (decide ((p0.Bound : Int) < 0))
 (some 2)
 (cond (decide ((p0.Bound : Int) > 1099511627776))
 (some 2)
 (cond (decide ((p0.Late : Int) < 0))
 (some 2)
 (cond (decide ((p0.Late : Int) > 1099511627776))
 (some 2)
 (cond (decide ((Sl.len p0.Ops : Int) > 8))
 (some 2)
 (jn (fun (e626 : Unit) =>
some 0) fun k627 => s16_l0 N p0 k627 N 0)))))))))
set_option maxRecDepth 8000 in
set_option maxHeartbeats 4000000 in
theorem w16 (N : Nat) {lo : Nat} {cl : Cl} {H : Hp} (p0 : T25) (hf : Fit lo cl H) {r : Int} (h : s16 N p0 = some r) : CallsR Tryd.prog (Kj lo) 16 [.agg [.int .i64 p0.Groups, .int .i64 p0.Sources, .int .i64 p0.Bound, .int .i64 p0.Late, Sl.enc 38 T38.enc p0.Ops]] H (cl) fun x H' cl' => x = .int .i64 r ∧ Kp [] H H' ∧ cl = cl' := by
 refine calls_by Tryd.func16 rfl rfl rfl ?_
 unfold s16 at h
 have hk0 : Kp [] H H := Kp.refl H
 refine C_seq ?_
 refine C_reg ?_
 refine oN (.agg [.int .i64 p0.Groups, .int .i64 p0.Sources, .int .i64 p0.Bound, .int .i64 p0.Late, Sl.enc 38 T38.enc p0.Ops]) fun id612 H610 hi613 hH614 => ?_
 have hb611 : H610[id612]? = some (some ⟨25, [.int .i64 p0.Groups, .int .i64 p0.Sources, .int .i64 p0.Bound, .int .i64 p0.Late, Sl.enc 38 T38.enc p0.Ops]⟩) := getL hi613 hH614
 have ho615 := Own.mk2 hf hk0 (Nat.le_of_eq hi613)
 have hk616 := kpA hH614 hk0
 refine oB (.int .i64 0) ?_
 refine O_nil ?_
 refine keep_to [(1, .ptr id612 0)] [] rfl rfl ?_
 refine C_seq ?_
 refine C_seq ?_
 refine C_reg ?_
 refine oP (.ptr id612 0) ?_
 refine oL (.int .i64 p0.Groups) hb611 ?_
 refine oP (.bool (decide ((p0.Groups : Int) < 1))) ?_
 rcases Bool.eq_false_or_eq_true (decide ((p0.Groups : Int) < 1)) with hg617 | hg617
 ·replace h := ocond_t h hg617
  refine O_move (sl' := []) (.bool true) rfl (congrArg (fun b => some (AV.bool b)) hg617) rfl rfl rfl ?_
  refine O_skip rfl rfl ?_
  refine O_skip rfl rfl ?_
  refine O_skip rfl rfl ?_
  refine oP (.bool true) ?_
  refine oM (.bool true) ?_
  refine O_skip rfl rfl ?_
  refine O_skip rfl rfl ?_
  refine O_skip rfl rfl ?_
  refine oP (.bool true) ?_
  refine oM (.bool true) ?_
  refine O_skip rfl rfl ?_
  refine O_skip rfl rfl ?_
  refine O_skip rfl rfl ?_
  refine oP (.bool true) ?_
  refine oM (.bool true) ?_
  refine O_skip rfl rfl ?_
  refine O_skip rfl rfl ?_
  refine O_skip rfl rfl ?_
  refine oP (.bool true) ?_
  refine oM (.bool true) ?_
  refine O_skip rfl rfl ?_
  refine O_skip rfl rfl ?_
  refine O_skip rfl rfl ?_
  refine oP (.bool true) ?_
  refine oM (.bool true) ?_
  refine O_skip rfl rfl ?_
  refine O_skip rfl rfl ?_
  refine O_skip rfl rfl ?_
  refine oP (.bool true) ?_
  refine oM (.bool true) ?_
  refine O_skip rfl rfl ?_
  refine O_skip rfl rfl ?_
  refine O_skip rfl rfl ?_
  refine oP (.bool true) ?_
  refine oM (.bool true) ?_
  refine O_skip rfl rfl ?_
  refine O_skip rfl rfl ?_
  refine O_skip rfl rfl ?_
  refine O_skip rfl rfl ?_
  refine oP (.bool true) ?_
  refine O_nil ?_
  refine keep_to [(1, .ptr id612 0), (49, .bool true)] [] rfl rfl ?_
  refine C_true rfl ?_
  refine C_seq ?_
  refine C_reg ?_
  refine oB (.int .i64 2) ?_
  refine O_nil ?_
  refine keep_to [(2, .int .i64 2)] [] rfl rfl ?_
  refine C_ret ?_
  obtain rfl := Option.some.inj h
  exact ⟨_, rfl, rfl, hk616, rfl⟩
 ·replace h := ocond_f h hg617
  refine O_move (sl' := []) (.bool false) rfl (congrArg (fun b => some (AV.bool b)) hg617) rfl rfl rfl ?_
  refine oP (.ptr id612 0) ?_
  refine oL (.int .i64 p0.Groups) hb611 ?_
  refine oP (.bool (decide ((p0.Groups : Int) > 64))) ?_
  refine oP (.bool (decide ((p0.Groups : Int) > 64))) ?_
  rcases Bool.eq_false_or_eq_true (decide ((p0.Groups : Int) > 64)) with hg618 | hg618
  ·replace h := ocond_t h hg618
   refine O_move (sl' := []) (.bool true) rfl (congrArg (fun b => some (AV.bool b)) hg618) rfl rfl rfl ?_
   refine O_skip rfl rfl ?_
   refine O_skip rfl rfl ?_
   refine O_skip rfl rfl ?_
   refine oP (.bool true) ?_
   refine oM (.bool true) ?_
   refine O_skip rfl rfl ?_
   refine O_skip rfl rfl ?_
   refine O_skip rfl rfl ?_
   refine oP (.bool true) ?_
   refine oM (.bool true) ?_
   refine O_skip rfl rfl ?_
   refine O_skip rfl rfl ?_
   refine O_skip rfl rfl ?_
   refine oP (.bool true) ?_
   refine oM (.bool true) ?_
   refine O_skip rfl rfl ?_
   refine O_skip rfl rfl ?_
   refine O_skip rfl rfl ?_
   refine oP (.bool true) ?_
   refine oM (.bool true) ?_
   refine O_skip rfl rfl ?_
   refine O_skip rfl rfl ?_
   refine O_skip rfl rfl ?_
   refine oP (.bool true) ?_
   refine oM (.bool true) ?_
   refine O_skip rfl rfl ?_
   refine O_skip rfl rfl ?_
   refine O_skip rfl rfl ?_
   refine oP (.bool true) ?_
   refine oM (.bool true) ?_
   refine O_skip rfl rfl ?_
   refine O_skip rfl rfl ?_
   refine O_skip rfl rfl ?_
   refine O_skip rfl rfl ?_
   refine oP (.bool true) ?_
   refine O_nil ?_
   refine keep_to [(1, .ptr id612 0), (49, .bool true)] [] rfl rfl ?_
   refine C_true rfl ?_
   refine C_seq ?_
   refine C_reg ?_
   refine oB (.int .i64 2) ?_
   refine O_nil ?_
   refine keep_to [(2, .int .i64 2)] [] rfl rfl ?_
   refine C_ret ?_
   obtain rfl := Option.some.inj h
   exact ⟨_, rfl, rfl, hk616, rfl⟩
  ·replace h := ocond_f h hg618
   refine O_move (sl' := []) (.bool false) rfl (congrArg (fun b => some (AV.bool b)) hg618) rfl rfl rfl ?_
   refine oP (.ptr id612 1) ?_
   refine oL (.int .i64 p0.Sources) hb611 ?_
   refine oP (.bool (decide ((p0.Sources : Int) < 1))) ?_
   refine oP (.bool (decide ((p0.Sources : Int) < 1))) ?_
   rcases Bool.eq_false_or_eq_true (decide ((p0.Sources : Int) < 1)) with hg619 | hg619
   ·replace h := ocond_t h hg619
    refine O_move (sl' := []) (.bool true) rfl (congrArg (fun b => some (AV.bool b)) hg619) rfl rfl rfl ?_
    refine O_skip rfl rfl ?_
    refine O_skip rfl rfl ?_
    refine O_skip rfl rfl ?_
    refine oP (.bool true) ?_
    refine oM (.bool true) ?_
    refine O_skip rfl rfl ?_
    refine O_skip rfl rfl ?_
    refine O_skip rfl rfl ?_
    refine oP (.bool true) ?_
    refine oM (.bool true) ?_
    refine O_skip rfl rfl ?_
    refine O_skip rfl rfl ?_
    refine O_skip rfl rfl ?_
    refine oP (.bool true) ?_
    refine oM (.bool true) ?_
    refine O_skip rfl rfl ?_
    refine O_skip rfl rfl ?_
    refine O_skip rfl rfl ?_
    refine oP (.bool true) ?_
    refine oM (.bool true) ?_
    refine O_skip rfl rfl ?_
    refine O_skip rfl rfl ?_
    refine O_skip rfl rfl ?_
    refine oP (.bool true) ?_
    refine oM (.bool true) ?_
    refine O_skip rfl rfl ?_
    refine O_skip rfl rfl ?_
    refine O_skip rfl rfl ?_
    refine O_skip rfl rfl ?_
    refine oP (.bool true) ?_
    refine O_nil ?_
    refine keep_to [(1, .ptr id612 0), (49, .bool true)] [] rfl rfl ?_
    refine C_true rfl ?_
    refine C_seq ?_
    refine C_reg ?_
    refine oB (.int .i64 2) ?_
    refine O_nil ?_
    refine keep_to [(2, .int .i64 2)] [] rfl rfl ?_
    refine C_ret ?_
    obtain rfl := Option.some.inj h
    exact ⟨_, rfl, rfl, hk616, rfl⟩
   ·replace h := ocond_f h hg619
    refine O_move (sl' := []) (.bool false) rfl (congrArg (fun b => some (AV.bool b)) hg619) rfl rfl rfl ?_
    refine oP (.ptr id612 1) ?_
    refine oL (.int .i64 p0.Sources) hb611 ?_
    refine oP (.bool (decide ((p0.Sources : Int) > 16))) ?_
    refine oP (.bool (decide ((p0.Sources : Int) > 16))) ?_
    rcases Bool.eq_false_or_eq_true (decide ((p0.Sources : Int) > 16)) with hg620 | hg620
    ·replace h := ocond_t h hg620
     refine O_move (sl' := []) (.bool true) rfl (congrArg (fun b => some (AV.bool b)) hg620) rfl rfl rfl ?_
     refine O_skip rfl rfl ?_
     refine O_skip rfl rfl ?_
     refine O_skip rfl rfl ?_
     refine oP (.bool true) ?_
     refine oM (.bool true) ?_
     refine O_skip rfl rfl ?_
     refine O_skip rfl rfl ?_
     refine O_skip rfl rfl ?_
     refine oP (.bool true) ?_
     refine oM (.bool true) ?_
     refine O_skip rfl rfl ?_
     refine O_skip rfl rfl ?_
     refine O_skip rfl rfl ?_
     refine oP (.bool true) ?_
     refine oM (.bool true) ?_
     refine O_skip rfl rfl ?_
     refine O_skip rfl rfl ?_
     refine O_skip rfl rfl ?_
     refine oP (.bool true) ?_
     refine oM (.bool true) ?_
     refine O_skip rfl rfl ?_
     refine O_skip rfl rfl ?_
     refine O_skip rfl rfl ?_
     refine O_skip rfl rfl ?_
     refine oP (.bool true) ?_
     refine O_nil ?_
     refine keep_to [(1, .ptr id612 0), (49, .bool true)] [] rfl rfl ?_
     refine C_true rfl ?_
     refine C_seq ?_
     refine C_reg ?_
     refine oB (.int .i64 2) ?_
     refine O_nil ?_
     refine keep_to [(2, .int .i64 2)] [] rfl rfl ?_
     refine C_ret ?_
     obtain rfl := Option.some.inj h
     exact ⟨_, rfl, rfl, hk616, rfl⟩
    ·replace h := ocond_f h hg620
     refine O_move (sl' := []) (.bool false) rfl (congrArg (fun b => some (AV.bool b)) hg620) rfl rfl rfl ?_
     refine oP (.ptr id612 2) ?_
     refine oL (.int .i64 p0.Bound) hb611 ?_
     refine oP (.bool (decide ((p0.Bound : Int) < 0))) ?_
     refine oP (.bool (decide ((p0.Bound : Int) < 0))) ?_
     rcases Bool.eq_false_or_eq_true (decide ((p0.Bound : Int) < 0)) with hg621 | hg621
     ·replace h := ocond_t h hg621
      refine O_move (sl' := []) (.bool true) rfl (congrArg (fun b => some (AV.bool b)) hg621) rfl rfl rfl ?_
      refine O_skip rfl rfl ?_
      refine O_skip rfl rfl ?_
      refine O_skip rfl rfl ?_
      refine oP (.bool true) ?_
      refine oM (.bool true) ?_
      refine O_skip rfl rfl ?_
      refine O_skip rfl rfl ?_
      refine O_skip rfl rfl ?_
      refine oP (.bool true) ?_
      refine oM (.bool true) ?_
      refine O_skip rfl rfl ?_
      refine O_skip rfl rfl ?_
      refine O_skip rfl rfl ?_
      refine oP (.bool true) ?_
      refine oM (.bool true) ?_
      refine O_skip rfl rfl ?_
      refine O_skip rfl rfl ?_
      refine O_skip rfl rfl ?_
      refine O_skip rfl rfl ?_
      refine oP (.bool true) ?_
      refine O_nil ?_
      refine keep_to [(1, .ptr id612 0), (49, .bool true)] [] rfl rfl ?_
      refine C_true rfl ?_
      refine C_seq ?_
      refine C_reg ?_
      refine oB (.int .i64 2) ?_
      refine O_nil ?_
      refine keep_to [(2, .int .i64 2)] [] rfl rfl ?_
      refine C_ret ?_
      obtain rfl := Option.some.inj h
      exact ⟨_, rfl, rfl, hk616, rfl⟩
     ·replace h := ocond_f h hg621
      refine O_move (sl' := []) (.bool false) rfl (congrArg (fun b => some (AV.bool b)) hg621) rfl rfl rfl ?_
      refine oP (.ptr id612 2) ?_
      refine oL (.int .i64 p0.Bound) hb611 ?_
      refine oP (.bool (decide ((p0.Bound : Int) > 1099511627776))) ?_
      refine oP (.bool (decide ((p0.Bound : Int) > 1099511627776))) ?_
      rcases Bool.eq_false_or_eq_true (decide ((p0.Bound : Int) > 1099511627776)) with hg622 | hg622
      ·replace h := ocond_t h hg622
       refine O_move (sl' := []) (.bool true) rfl (congrArg (fun b => some (AV.bool b)) hg622) rfl rfl rfl ?_
       refine O_skip rfl rfl ?_
       refine O_skip rfl rfl ?_
       refine O_skip rfl rfl ?_
       refine oP (.bool true) ?_
       refine oM (.bool true) ?_
       refine O_skip rfl rfl ?_
       refine O_skip rfl rfl ?_
       refine O_skip rfl rfl ?_
       refine oP (.bool true) ?_
       refine oM (.bool true) ?_
       refine O_skip rfl rfl ?_
       refine O_skip rfl rfl ?_
       refine O_skip rfl rfl ?_
       refine O_skip rfl rfl ?_
       refine oP (.bool true) ?_
       refine O_nil ?_
       refine keep_to [(1, .ptr id612 0), (49, .bool true)] [] rfl rfl ?_
       refine C_true rfl ?_
       refine C_seq ?_
       refine C_reg ?_
       refine oB (.int .i64 2) ?_
       refine O_nil ?_
       refine keep_to [(2, .int .i64 2)] [] rfl rfl ?_
       refine C_ret ?_
       obtain rfl := Option.some.inj h
       exact ⟨_, rfl, rfl, hk616, rfl⟩
      ·replace h := ocond_f h hg622
       refine O_move (sl' := []) (.bool false) rfl (congrArg (fun b => some (AV.bool b)) hg622) rfl rfl rfl ?_
       refine oP (.ptr id612 3) ?_
       refine oL (.int .i64 p0.Late) hb611 ?_
       refine oP (.bool (decide ((p0.Late : Int) < 0))) ?_
       refine oP (.bool (decide ((p0.Late : Int) < 0))) ?_
       rcases Bool.eq_false_or_eq_true (decide ((p0.Late : Int) < 0)) with hg623 | hg623
       ·replace h := ocond_t h hg623
        refine O_move (sl' := []) (.bool true) rfl (congrArg (fun b => some (AV.bool b)) hg623) rfl rfl rfl ?_
        refine O_skip rfl rfl ?_
        refine O_skip rfl rfl ?_
        refine O_skip rfl rfl ?_
        refine oP (.bool true) ?_
        refine oM (.bool true) ?_
        refine O_skip rfl rfl ?_
        refine O_skip rfl rfl ?_
        refine O_skip rfl rfl ?_
        refine O_skip rfl rfl ?_
        refine oP (.bool true) ?_
        refine O_nil ?_
        refine keep_to [(1, .ptr id612 0), (49, .bool true)] [] rfl rfl ?_
        refine C_true rfl ?_
        refine C_seq ?_
        refine C_reg ?_
        refine oB (.int .i64 2) ?_
        refine O_nil ?_
        refine keep_to [(2, .int .i64 2)] [] rfl rfl ?_
        refine C_ret ?_
        obtain rfl := Option.some.inj h
        exact ⟨_, rfl, rfl, hk616, rfl⟩
       ·replace h := ocond_f h hg623
        refine O_move (sl' := []) (.bool false) rfl (congrArg (fun b => some (AV.bool b)) hg623) rfl rfl rfl ?_
        refine oP (.ptr id612 3) ?_
        refine oL (.int .i64 p0.Late) hb611 ?_
        refine oP (.bool (decide ((p0.Late : Int) > 1099511627776))) ?_
        refine oP (.bool (decide ((p0.Late : Int) > 1099511627776))) ?_
        rcases Bool.eq_false_or_eq_true (decide ((p0.Late : Int) > 1099511627776)) with hg624 | hg624
        ·replace h := ocond_t h hg624
         refine O_move (sl' := []) (.bool true) rfl (congrArg (fun b => some (AV.bool b)) hg624) rfl rfl rfl ?_
         refine O_skip rfl rfl ?_
         refine O_skip rfl rfl ?_
         refine O_skip rfl rfl ?_
         refine O_skip rfl rfl ?_
         refine oP (.bool true) ?_
         refine O_nil ?_
         refine keep_to [(1, .ptr id612 0), (49, .bool true)] [] rfl rfl ?_
         refine C_true rfl ?_
         refine C_seq ?_
         refine C_reg ?_
         refine oB (.int .i64 2) ?_
         refine O_nil ?_
         refine keep_to [(2, .int .i64 2)] [] rfl rfl ?_
         refine C_ret ?_
         obtain rfl := Option.some.inj h
         exact ⟨_, rfl, rfl, hk616, rfl⟩
        ·replace h := ocond_f h hg624
         refine O_move (sl' := []) (.bool false) rfl (congrArg (fun b => some (AV.bool b)) hg624) rfl rfl rfl ?_
         refine oP (.ptr id612 4) ?_
         refine O_load (cl' := cl) (sl' := []) (Sl.enc 38 T38.enc p0.Ops) rfl rfl hb611 (by cases p0.Ops <;> rfl) rfl rfl rfl (fun p h => ⟨h, fun e => by cases e⟩) ?_
         refine oQ (.int .i64 (Sl.len p0.Ops)) (len_sl (f := T38.enc) rfl rfl rfl rfl) ?_
         refine oP (.bool (decide ((Sl.len p0.Ops : Int) > 8))) ?_
         refine oP (.bool (decide ((Sl.len p0.Ops : Int) > 8))) ?_
         refine O_nil ?_
         refine keep_to [(1, .ptr id612 0), (49, .bool (decide ((Sl.len p0.Ops : Int) > 8)))] [] rfl rfl ?_
         refine C_cond (decide ((Sl.len p0.Ops : Int) > 8)) rfl (fun hc625 => ?_) (fun hc625 => ?_)
         ·replace h := ocond_t h hc625
          refine C_seq ?_
          refine C_reg ?_
          refine oB (.int .i64 2) ?_
          refine O_nil ?_
          refine keep_to [(2, .int .i64 2)] [] rfl rfl ?_
          refine C_ret ?_
          obtain rfl := Option.some.inj h
          exact ⟨_, rfl, rfl, hk616, rfl⟩
         ·replace h := ocond_f h hc625
          refine C_skip ?_
          refine C_seq ?_
          refine C_seq ?_
          refine C_reg ?_
          refine oB (.int .i64 0) ?_
          refine O_nil ?_
          refine keep_to [(1, .ptr id612 0), (3, .int .i64 0)] [] rfl rfl ?_
          refine C_block ?_
          obtain ⟨k627, hk628, h⟩ := jn_some h
          refine C_loopE [1, 3] (fun n env' H' sl' cl' => ∃ (v3 : Int), env' = [(1, .ptr id612 0), (3, .int .i64 v3)] ∧ sl' = [] ∧ cl = cl' ∧ Kp [] H H' ∧ H'[id612]? = some (some ⟨25, [.int .i64 p0.Groups, .int .i64 p0.Sources, .int .i64 p0.Bound, .int .i64 p0.Late, Sl.enc 38 T38.enc p0.Ops]⟩) ∧ s16_l0 N p0 k627 n v3 = some r) 0 [] (fun env' H' sl' cl' => ∃ (e626 : Unit), env' = [] ∧ sl' = [] ∧ cl = cl' ∧ Kp [] H H' ∧ H'[id612]? = some (some ⟨25, [.int .i64 p0.Groups, .int .i64 p0.Sources, .int .i64 p0.Bound, .int .i64 p0.Late, Sl.enc 38 T38.enc p0.Ops]⟩) ∧ k627 e626 = some r) N ⟨0, rfl, rfl, rfl, hk616, hb611, h⟩ ?_ ?_
          ·rintro n _ H629 _ _ ⟨v3, rfl, rfl, rfl, hk630, hb631, h⟩
           cases n with
           | zero => rw [s16_l0] at h; cases h
           | succ n =>
           rw [s16_l0] at h
           refine C_seq ?_
           refine C_seq ?_
           refine C_reg ?_
           refine oM (.int .i64 v3) ?_
           refine oP (.ptr id612 4) ?_
           refine O_load (cl' := cl) (sl' := []) (Sl.enc 38 T38.enc p0.Ops) rfl rfl hb631 (by cases p0.Ops <;> rfl) rfl rfl rfl (fun p h => ⟨h, fun e => by cases e⟩) ?_
           refine oQ (.int .i64 (Sl.len p0.Ops)) (len_sl (f := T38.enc) rfl rfl rfl rfl) ?_
           refine oP (.bool (decide ((v3 : Int) < Sl.len p0.Ops))) ?_
           refine O_nil ?_
           refine keep_to [(1, .ptr id612 0), (3, .int .i64 v3), (54, .bool (decide ((v3 : Int) < Sl.len p0.Ops)))] [] rfl rfl ?_
           refine C_cond (decide ((v3 : Int) < Sl.len p0.Ops)) rfl (fun hc632 => ?_) (fun hc632 => ?_)
           ·replace h := ocond_t h hc632
            refine C_skip ?_
            refine C_seq ?_
            refine C_block ?_
            refine C_seq ?_
            refine C_reg ?_
            refine oP (.ptr id612 4) ?_
            refine O_load (cl' := cl) (sl' := []) (Sl.enc 38 T38.enc p0.Ops) rfl rfl hb631 (by cases p0.Ops <;> rfl) rfl rfl rfl (fun p h => ⟨h, fun e => by cases e⟩) ?_
            refine oM (.int .i64 v3) ?_
            obtain ⟨o633, hx634, h⟩ := obind_some h
            refine oQ (.ept [.str o633.Name, .int .i64 o633.Agg, .int .i64 o633.Windows_Kind, .int .i64 o633.Windows_Size, .int .i64 o633.Windows_Slide] 0) (idx_sl (f := T38.enc) rfl rfl rfl hx634) ?_
            refine oE (.agg [.str o633.Name, .int .i64 o633.Agg, .int .i64 o633.Windows_Kind, .int .i64 o633.Windows_Size, .int .i64 o633.Windows_Slide]) ?_
            refine oZ [.str [], .int .i64 0, .int .i64 0, .int .i64 0, .int .i64 0] fun id637 H635 hi638 hH639 => ?_
            have hb636 : H635[id637]? = some (some ⟨38, [.str [], .int .i64 0, .int .i64 0, .int .i64 0, .int .i64 0]⟩) := getL hi638 hH639
            have ho640 := Own.mk2 hf hk630 (Nat.le_of_eq hi638)
            have hn641 := ne_of_lt hb631 (Nat.le_of_eq hi638)
            have hb642 := getA hH639 hb631
            have hk643 := kpA hH639 hk630
            refine O_store (sl' := []) (cl' := cl) (.agg [.str o633.Name, .int .i64 o633.Agg, .int .i64 o633.Windows_Kind, .int .i64 o633.Windows_Size, .int .i64 o633.Windows_Slide]) rfl rfl rfl ho640.lo hb636 rfl rfl (fun q h => by cases h) (fun i o h => .inr ⟨h, fun e => ho640.cl i o h e.1⟩) fun H644 hH645 => ?_
            have hb646 : H644[id637]? = some (some ⟨38, [.str o633.Name, .int .i64 o633.Agg, .int .i64 o633.Windows_Kind, .int .i64 o633.Windows_Size, .int .i64 o633.Windows_Slide]⟩) := getW hH645 hb636
            have hb647 := getS hH645 hn641 hb642
            have hk648 := kpS hH645 ho640.ge hk643
            refine O_nil ?_
            refine keep_to [(1, .ptr id612 0), (3, .int .i64 v3), (4, .ptr id637 0)] [] rfl rfl ?_
            refine C_seq ?_
            refine C_seq ?_
            refine C_reg ?_
            refine oP (.ptr id637 0) ?_
            refine oL (.str o633.Name) hb646 ?_
            obtain ⟨x652, hx653, h⟩ := obind_some h
            refine oK [.str o633.Name] (w34 N (lo := lo) o633.Name (hf.kp hk648) hx653) ?_
            rintro _ H649 _ ⟨rfl, hk650, rfl⟩
            have hb654 := hk650.get0 hb647
            have hb655 := hk650.get0 hb646
            have hk656 := hk648.trans hk650
            refine oP (.bool (!x652)) ?_
            rcases Bool.eq_false_or_eq_true (!x652) with hg657 | hg657
            ·replace h := ocond_t h hg657
             refine O_move (sl' := []) (.bool true) rfl (congrArg (fun b => some (AV.bool b)) hg657) rfl rfl rfl ?_
             refine O_skip rfl rfl ?_
             refine O_skip rfl rfl ?_
             refine O_skip rfl rfl ?_
             refine oP (.bool true) ?_
             refine oM (.bool true) ?_
             refine O_skip rfl rfl ?_
             refine O_skip rfl rfl ?_
             refine O_skip rfl rfl ?_
             refine oP (.bool true) ?_
             refine oM (.bool true) ?_
             refine O_skip rfl rfl ?_
             refine O_skip rfl rfl ?_
             refine O_skip rfl rfl ?_
             refine O_skip rfl rfl ?_
             refine oP (.bool true) ?_
             refine O_nil ?_
             refine keep_to [(1, .ptr id612 0), (3, .int .i64 v3), (4, .ptr id637 0), (81, .bool true)] [] rfl rfl ?_
             refine C_true rfl ?_
             refine C_seq ?_
             refine C_reg ?_
             refine oB (.int .i64 2) ?_
             refine O_nil ?_
             refine keep_to [(2, .int .i64 2)] [] rfl rfl ?_
             refine C_ret ?_
             obtain rfl := Option.some.inj h
             exact ⟨_, rfl, rfl, hk656, rfl⟩
            ·replace h := ocond_f h hg657
             refine O_move (sl' := []) (.bool false) rfl (congrArg (fun b => some (AV.bool b)) hg657) rfl rfl rfl ?_
             refine oP (.ptr id637 1) ?_
             refine oL (.int .i64 o633.Agg) hb655 ?_
             refine oP (.bool (decide ((o633.Agg : Int) < 1))) ?_
             refine oP (.bool (decide ((o633.Agg : Int) < 1))) ?_
             rcases Bool.eq_false_or_eq_true (decide ((o633.Agg : Int) < 1)) with hg658 | hg658
             ·replace h := ocond_t h hg658
              refine O_move (sl' := []) (.bool true) rfl (congrArg (fun b => some (AV.bool b)) hg658) rfl rfl rfl ?_
              refine O_skip rfl rfl ?_
              refine O_skip rfl rfl ?_
              refine O_skip rfl rfl ?_
              refine oP (.bool true) ?_
              refine oM (.bool true) ?_
              refine O_skip rfl rfl ?_
              refine O_skip rfl rfl ?_
              refine O_skip rfl rfl ?_
              refine O_skip rfl rfl ?_
              refine oP (.bool true) ?_
              refine O_nil ?_
              refine keep_to [(1, .ptr id612 0), (3, .int .i64 v3), (4, .ptr id637 0), (81, .bool true)] [] rfl rfl ?_
              refine C_true rfl ?_
              refine C_seq ?_
              refine C_reg ?_
              refine oB (.int .i64 2) ?_
              refine O_nil ?_
              refine keep_to [(2, .int .i64 2)] [] rfl rfl ?_
              refine C_ret ?_
              obtain rfl := Option.some.inj h
              exact ⟨_, rfl, rfl, hk656, rfl⟩
             ·replace h := ocond_f h hg658
              refine O_move (sl' := []) (.bool false) rfl (congrArg (fun b => some (AV.bool b)) hg658) rfl rfl rfl ?_
              refine oP (.ptr id637 1) ?_
              refine oL (.int .i64 o633.Agg) hb655 ?_
              refine oP (.bool (decide ((o633.Agg : Int) > 8))) ?_
              refine oP (.bool (decide ((o633.Agg : Int) > 8))) ?_
              rcases Bool.eq_false_or_eq_true (decide ((o633.Agg : Int) > 8)) with hg659 | hg659
              ·replace h := ocond_t h hg659
               refine O_move (sl' := []) (.bool true) rfl (congrArg (fun b => some (AV.bool b)) hg659) rfl rfl rfl ?_
               refine O_skip rfl rfl ?_
               refine O_skip rfl rfl ?_
               refine O_skip rfl rfl ?_
               refine O_skip rfl rfl ?_
               refine oP (.bool true) ?_
               refine O_nil ?_
               refine keep_to [(1, .ptr id612 0), (3, .int .i64 v3), (4, .ptr id637 0), (81, .bool true)] [] rfl rfl ?_
               refine C_true rfl ?_
               refine C_seq ?_
               refine C_reg ?_
               refine oB (.int .i64 2) ?_
               refine O_nil ?_
               refine keep_to [(2, .int .i64 2)] [] rfl rfl ?_
               refine C_ret ?_
               obtain rfl := Option.some.inj h
               exact ⟨_, rfl, rfl, hk656, rfl⟩
              ·replace h := ocond_f h hg659
               refine O_move (sl' := []) (.bool false) rfl (congrArg (fun b => some (AV.bool b)) hg659) rfl rfl rfl ?_
               refine oP (.ptr id637 2) ?_
               refine oL (.agg [.int .i64 o633.Windows_Kind, .int .i64 o633.Windows_Size, .int .i64 o633.Windows_Slide]) hb655 ?_
               obtain ⟨x663, hx664, h⟩ := obind_some h
               refine oK [.agg [.int .i64 o633.Windows_Kind, .int .i64 o633.Windows_Size, .int .i64 o633.Windows_Slide]] (w35 N (lo := lo) (T36.mk o633.Windows_Kind o633.Windows_Size o633.Windows_Slide) (hf.kp hk656) hx664) ?_
               rintro _ H660 _ ⟨rfl, hk661, rfl⟩
               have hb665 := hk661.get0 hb654
               have hb666 := hk661.get0 hb655
               have hk667 := hk656.trans hk661
               refine oP (.bool ((x663 : Int) != 0)) ?_
               refine oP (.bool ((x663 : Int) != 0)) ?_
               refine O_nil ?_
               refine keep_to [(1, .ptr id612 0), (3, .int .i64 v3), (4, .ptr id637 0), (81, .bool ((x663 : Int) != 0))] [] rfl rfl ?_
               refine C_cond ((x663 : Int) != 0) rfl (fun hc668 => ?_) (fun hc668 => ?_)
               ·replace h := ocond_t h hc668
                refine C_seq ?_
                refine C_reg ?_
                refine oB (.int .i64 2) ?_
                refine O_nil ?_
                refine keep_to [(2, .int .i64 2)] [] rfl rfl ?_
                refine C_ret ?_
                obtain rfl := Option.some.inj h
                exact ⟨_, rfl, rfl, hk667, rfl⟩
               ·replace h := ocond_f h hc668
                refine C_skip ?_
                refine C_seq ?_
                refine C_reg ?_
                refine oB (.int .i64 0) ?_
                refine O_nil ?_
                refine keep_to [(1, .ptr id612 0), (3, .int .i64 v3), (4, .ptr id637 0), (5, .int .i64 0)] [] rfl rfl ?_
                refine C_block ?_
                obtain ⟨k670, hk671, h⟩ := jn_some h
                refine C_loopE [1, 3, 4, 5] (fun n env' H' sl' cl' => ∃ (v5l1 : Int), env' = [(1, .ptr id612 0), (3, .int .i64 v3), (4, .ptr id637 0), (5, .int .i64 v5l1)] ∧ sl' = [] ∧ cl = cl' ∧ Kp [] H H' ∧ H'[id612]? = some (some ⟨25, [.int .i64 p0.Groups, .int .i64 p0.Sources, .int .i64 p0.Bound, .int .i64 p0.Late, Sl.enc 38 T38.enc p0.Ops]⟩) ∧ H'[id637]? = some (some ⟨38, [.str o633.Name, .int .i64 o633.Agg, .int .i64 o633.Windows_Kind, .int .i64 o633.Windows_Size, .int .i64 o633.Windows_Slide]⟩) ∧ s16_l1 N p0 v3 o633 k670 n v5l1 = some r) 2 [1, 3] (fun env' H' sl' cl' => ∃ (e669 : Unit), env' = [(1, .ptr id612 0), (3, .int .i64 v3)] ∧ sl' = [] ∧ cl = cl' ∧ Kp [] H H' ∧ H'[id612]? = some (some ⟨25, [.int .i64 p0.Groups, .int .i64 p0.Sources, .int .i64 p0.Bound, .int .i64 p0.Late, Sl.enc 38 T38.enc p0.Ops]⟩) ∧ H'[id637]? = some (some ⟨38, [.str o633.Name, .int .i64 o633.Agg, .int .i64 o633.Windows_Kind, .int .i64 o633.Windows_Size, .int .i64 o633.Windows_Slide]⟩) ∧ k670 e669 = some r) N ⟨0, rfl, rfl, rfl, hk667, hb665, hb666, h⟩ ?_ ?_
                ·rintro n _ H672 _ _ ⟨v5l1, rfl, rfl, rfl, hk673, hb674, hb675, h⟩
                 cases n with
                 | zero => rw [s16_l1] at h; cases h
                 | succ n =>
                 rw [s16_l1] at h
                 refine C_seq ?_
                 refine C_seq ?_
                 refine C_reg ?_
                 refine oM (.int .i64 v5l1) ?_
                 refine oM (.int .i64 v3) ?_
                 refine oP (.bool (decide ((v5l1 : Int) < v3))) ?_
                 refine O_nil ?_
                 refine keep_to [(1, .ptr id612 0), (3, .int .i64 v3), (4, .ptr id637 0), (5, .int .i64 v5l1), (84, .bool (decide ((v5l1 : Int) < v3)))] [] rfl rfl ?_
                 refine C_cond (decide ((v5l1 : Int) < v3)) rfl (fun hc676 => ?_) (fun hc676 => ?_)
                 ·replace h := ocond_t h hc676
                  refine C_skip ?_
                  refine C_seq ?_
                  refine C_block ?_
                  refine C_seq ?_
                  refine C_draw0 none (m := false) rfl rfl rfl fun b677 hb678 => ?_
                  refine oP (.ptr id612 4) ?_
                  refine O_load (cl' := cl) (sl' := []) (Sl.enc 38 T38.enc p0.Ops) rfl rfl hb674 (by cases p0.Ops <;> rfl) rfl rfl rfl (fun p h => ⟨h, fun e => by cases e⟩) ?_
                  refine oM (.int .i64 v5l1) ?_
                  obtain ⟨o679, hx680, h⟩ := obind_some h
                  refine oQ (.ept [.str o679.Name, .int .i64 o679.Agg, .int .i64 o679.Windows_Kind, .int .i64 o679.Windows_Size, .int .i64 o679.Windows_Slide] 0) (idx_sl (f := T38.enc) rfl rfl rfl hx680) ?_
                  refine oP (.ept [.str o679.Name, .int .i64 o679.Agg, .int .i64 o679.Windows_Kind, .int .i64 o679.Windows_Size, .int .i64 o679.Windows_Slide] 0) ?_
                  refine oE (.str o679.Name) ?_
                  refine oP (.ptr id637 0) ?_
                  refine oL (.str o633.Name) hb675 ?_
                  refine oP (.bool ((o679.Name : Bs) == o633.Name)) ?_
                  refine O_nil ?_
                  refine keep_to [(1, .ptr id612 0), (3, .int .i64 v3), (4, .ptr id637 0), (5, .int .i64 v5l1), (95, .bool ((o679.Name : Bs) == o633.Name))] [] rfl rfl ?_
                  refine C_cond ((o679.Name : Bs) == o633.Name) rfl (fun hc681 => ?_) (fun hc681 => ?_)
                  ·replace h := ocond_t h hc681
                   refine C_seq ?_
                   refine C_reg ?_
                   refine oB (.int .i64 2) ?_
                   refine O_nil ?_
                   refine keep_to [(2, .int .i64 2)] [] rfl rfl ?_
                   refine C_ret ?_
                   obtain rfl := Option.some.inj h
                   exact ⟨_, rfl, rfl, hk673, rfl⟩
                  ·replace h := ocond_f h hc681
                   refine C_skip ?_
                   refine C_reg ?_
                   refine oM (.int .i64 v5l1) ?_
                   refine oP (.int .i64 (IntKind.wrap .i64 (v5l1 + 1))) ?_
                   refine oA (.int .i64 (IntKind.wrap .i64 (v5l1 + 1))) ?_
                   refine O_nil ?_
                   refine keep_to [(1, .ptr id612 0), (3, .int .i64 v3), (4, .ptr id637 0), (5, .int .i64 (IntKind.wrap .i64 (v5l1 + 1)))] [] rfl rfl ?_
                   exact ⟨n, Nat.lt_succ_self n, (IntKind.wrap .i64 (v5l1 + 1)), rfl, rfl, rfl, hk673, hb674, hb675, h⟩
                 ·replace h := ocond_f h hc676
                  refine C_exit ?_
                  exact ⟨_, rfl, rfl, rfl, hk673, hb674, hb675, h⟩
                ·rintro _ H682 _ _ ⟨e669, rfl, rfl, rfl, hk683, hb684, hb685, h⟩
                 subst hk671
                 refine C_reg ?_
                 refine oM (.int .i64 v3) ?_
                 refine oP (.int .i64 (IntKind.wrap .i64 (v3 + 1))) ?_
                 refine oA (.int .i64 (IntKind.wrap .i64 (v3 + 1))) ?_
                 refine O_nil ?_
                 refine keep_to [(1, .ptr id612 0), (3, .int .i64 (IntKind.wrap .i64 (v3 + 1)))] [] rfl rfl ?_
                 exact ⟨n, Nat.lt_succ_self n, (IntKind.wrap .i64 (v3 + 1)), rfl, rfl, rfl, hk683, hb684, h⟩
           ·replace h := ocond_f h hc632
            refine C_exit ?_
            exact ⟨_, rfl, rfl, rfl, hk630, hb631, h⟩
          ·rintro _ H686 _ _ ⟨e626, rfl, rfl, rfl, hk687, hb688, h⟩
           subst hk628
           refine C_seq ?_
           refine C_reg ?_
           refine oB (.int .i64 0) ?_
           refine O_nil ?_
           refine keep_to [(2, .int .i64 0)] [] rfl rfl ?_
           refine C_ret ?_
           obtain rfl := Option.some.inj h
           exact ⟨_, rfl, rfl, hk687, rfl⟩
end Go.Proofs.YtecdcnacjlcjoaaDoor.Job

/- Job: walks (GB). Printed by a small program. -/
namespace Go.Proofs.YtecdcnacjlcjoaaDoor.Job
open Am
set_option linter.unusedVariables false
set_option linter.unusedSimpArgs false
/- freshet/freshetref24.read -/
def s24 (N : Nat) (p0 : T25) (p1 : Int) (p2 : (Sl Bs)) : Option (T25 × Bool) :=
cond (decide ((p1 : Int) ≥ 4))
 (Option.bind (s43 N p2) fun x895 =>
Option.bind (Sl.app 48 (some ([], [])) p0.Ops) fun l919 =>
Option.bind (Sl.app 48 l919 (some ([x895.1], []))) fun l921 =>
cond (x895.2)
 (Option.bind (s16 N (T25.mk p0.Groups p0.Sources p0.Bound p0.Late l921)) fun x935 =>
some ((T25.mk p0.Groups p0.Sources p0.Bound p0.Late l921), ((x935 : Int) == 0)))
 (some ((T25.mk p0.Groups p0.Sources p0.Bound p0.Late l921), false)))
 (cond ((Sl.len p2 : Int) != 2)
 (some (p0, false))
 (Option.bind (Sl.get p2 1) fun o956 =>
Option.bind (s44 N o956) fun x961 =>
cond ((p1 : Int) == 0)
 (Option.bind (Sl.get p2 0) fun o974 =>
cond ((o974 : Bs) == [103, 114, 111, 117, 112, 115])
 (cond (decide ((x961 : Int) ≥ 1))
 (some ((T25.mk x961 p0.Sources p0.Bound p0.Late p0.Ops), (decide ((x961 : Int) ≤ 64))))
 (some ((T25.mk x961 p0.Sources p0.Bound p0.Late p0.Ops), false)))
 (some ((T25.mk x961 p0.Sources p0.Bound p0.Late p0.Ops), false)))
 (cond ((p1 : Int) == 1)
 (Option.bind (Sl.get p2 0) fun o1001 =>
cond ((o1001 : Bs) == [115, 111, 117, 114, 99, 101, 115])
 (cond (decide ((x961 : Int) ≥ 1))
 (some ((T25.mk p0.Groups x961 p0.Bound p0.Late p0.Ops), (decide ((x961 : Int) ≤ 16))))
 (some ((T25.mk p0.Groups x961 p0.Bound p0.Late p0.Ops), false)))
 (some ((T25.mk p0.Groups x961 p0.Bound p0.Late p0.Ops), false)))
 (cond ((p1 : Int) == 2)
 (Option.bind (Sl.get p2 0) fun o1028 =>
cond ((o1028 : Bs) == [98, 111, 117, 110, 100])
 (some ((T25.mk p0.Groups p0.Sources x961 p0.Late p0.Ops), (decide ((x961 : Int) ≥ 0))))
 (some ((T25.mk p0.Groups p0.Sources x961 p0.Late p0.Ops), false)))
 (Option.bind (Sl.get p2 0) fun o1048 =>
cond ((o1048 : Bs) == [108, 97, 116, 101])
 (some ((T25.mk p0.Groups p0.Sources p0.Bound x961 p0.Ops), (decide ((x961 : Int) ≥ 0))))
 (some ((T25.mk p0.Groups p0.Sources p0.Bound x961 p0.Ops), false)))))))
set_option maxRecDepth 8000 in
set_option maxHeartbeats 4000000 in
theorem w24 (N : Nat) {lo : Nat} {cl : Cl} {H : Hp} (p0 : T25) (p1 : Int) (p2 : (Sl Bs)) (hf : Fit lo cl H) {r : (T25 × Bool)} (h : s24 N p0 p1 p2 = some r) : CallsR Tryd.prog (Kj lo) 24 [.agg [.int .i64 p0.Groups, .int .i64 p0.Sources, .int .i64 p0.Bound, .int .i64 p0.Late, Sl.enc 38 T38.enc p0.Ops], .int .i64 p1, Sl.enc 9 AV.str p2] H (cl) fun x H' cl' => x = .tup [.agg [.int .i64 r.1.Groups, .int .i64 r.1.Sources, .int .i64 r.1.Bound, .int .i64 r.1.Late, Sl.enc 38 T38.enc r.1.Ops], .bool r.2] ∧ Kp [] H H' ∧ cl = cl' := by
 refine calls_by Tryd.func24 rfl rfl rfl ?_
 unfold s24 at h
 have hk0 : Kp [] H H := Kp.refl H
 refine C_seq ?_
 refine C_reg ?_
 refine oN (.agg [.int .i64 p0.Groups, .int .i64 p0.Sources, .int .i64 p0.Bound, .int .i64 p0.Late, Sl.enc 38 T38.enc p0.Ops]) fun id877 H875 hi878 hH879 => ?_
 have hb876 : H875[id877]? = some (some ⟨25, [.int .i64 p0.Groups, .int .i64 p0.Sources, .int .i64 p0.Bound, .int .i64 p0.Late, Sl.enc 38 T38.enc p0.Ops]⟩) := getL hi878 hH879
 have ho880 := Own.mk2 hf hk0 (Nat.le_of_eq hi878)
 have hk881 := kpA hH879 hk0
 refine oZ [.int .i64 0, .int .i64 0, .int .i64 0, .int .i64 0, Sl.enc 38 T38.enc none] fun id884 H882 hi885 hH886 => ?_
 have hb883 : H882[id884]? = some (some ⟨25, [.int .i64 0, .int .i64 0, .int .i64 0, .int .i64 0, Sl.enc 38 T38.enc none]⟩) := getL hi885 hH886
 have ho887 := Own.mk2 hf hk881 (Nat.le_of_eq hi885)
 have hn888 := ne_of_lt hb876 (Nat.le_of_eq hi885)
 have hb889 := getA hH886 hb876
 have hk890 := kpA hH886 hk881
 refine oB (.bool false) ?_
 refine O_nil ?_
 refine keep_to [(1, .int .i64 p1), (2, Sl.enc 9 AV.str p2), (3, .ptr id877 0), (6, .ptr id884 0)] [] rfl rfl ?_
 refine C_seq ?_
 refine C_seq ?_
 refine C_reg ?_
 refine oM (.int .i64 p1) ?_
 refine oP (.bool (decide ((p1 : Int) ≥ 4))) ?_
 refine O_nil ?_
 refine keep_to [(1, .int .i64 p1), (2, Sl.enc 9 AV.str p2), (3, .ptr id877 0), (6, .ptr id884 0), (12, .bool (decide ((p1 : Int) ≥ 4)))] [] rfl rfl ?_
 refine C_cond (decide ((p1 : Int) ≥ 4)) rfl (fun hc891 => ?_) (fun hc891 => ?_)
 ·replace h := ocond_t h hc891
  refine C_seq ?_
  refine C_reg ?_
  refine oM (Sl.enc 9 AV.str p2) ?_
  obtain ⟨x895, hx896, h⟩ := obind_some h
  refine oK [Sl.enc 9 AV.str p2] (w43 N (lo := lo) p2 (hf.kp hk890) hx896) ?_
  rintro _ H892 _ ⟨rfl, hk893, rfl⟩
  have hb897 := hk893.get0 hb889
  have hb898 := hk893.get0 hb883
  have hk899 := hk890.trans hk893
  refine oM (.tup [.agg [.str x895.1.Name, .int .i64 x895.1.Agg, .int .i64 x895.1.Windows_Kind, .int .i64 x895.1.Windows_Size, .int .i64 x895.1.Windows_Slide], .bool x895.2]) ?_
  refine oP (.agg [.str x895.1.Name, .int .i64 x895.1.Agg, .int .i64 x895.1.Windows_Kind, .int .i64 x895.1.Windows_Size, .int .i64 x895.1.Windows_Slide]) ?_
  refine oP (.bool x895.2) ?_
  refine oZ [.str [], .int .i64 0, .int .i64 0, .int .i64 0, .int .i64 0] fun id902 H900 hi903 hH904 => ?_
  have hb901 : H900[id902]? = some (some ⟨38, [.str [], .int .i64 0, .int .i64 0, .int .i64 0, .int .i64 0]⟩) := getL hi903 hH904
  have ho905 := Own.mk2 hf hk899 (Nat.le_of_eq hi903)
  have hn906 := ne_of_lt hb897 (Nat.le_of_eq hi903)
  have hn907 := ne_of_lt hb898 (Nat.le_of_eq hi903)
  have hb908 := getA hH904 hb897
  have hb909 := getA hH904 hb898
  have hk910 := kpA hH904 hk899
  refine O_store (sl' := []) (cl' := cl) (.agg [.str x895.1.Name, .int .i64 x895.1.Agg, .int .i64 x895.1.Windows_Kind, .int .i64 x895.1.Windows_Size, .int .i64 x895.1.Windows_Slide]) rfl rfl rfl ho905.lo hb901 rfl rfl (fun q h => by cases h) (fun i o h => .inr ⟨h, fun e => ho905.cl i o h e.1⟩) fun H911 hH912 => ?_
  have hb913 : H911[id902]? = some (some ⟨38, [.str x895.1.Name, .int .i64 x895.1.Agg, .int .i64 x895.1.Windows_Kind, .int .i64 x895.1.Windows_Size, .int .i64 x895.1.Windows_Slide]⟩) := getW hH912 hb901
  have hb914 := getS hH912 hn906 hb908
  have hb915 := getS hH912 hn907 hb909
  have hk916 := kpS hH912 ho905.ge hk910
  refine oA (.bool x895.2) ?_
  refine O_nil ?_
  refine keep_to [(3, .ptr id877 0), (6, .ptr id884 0), (8, .ptr id902 0), (9, .bool x895.2)] [] rfl rfl ?_
  refine C_seq ?_
  refine C_draw0 none (m := false) rfl rfl rfl fun b917 hb918 => ?_
  refine O_bslice (sl' := [18]) [] [] rfl rfl rfl rfl rfl rfl ?_
  refine O_pure (sl' := [18]) (.ptr id877 4) rfl rfl rfl rfl ?_
  refine O_load (cl' := cl) (sl' := [18]) (Sl.enc 38 T38.enc p0.Ops) rfl rfl hb914 (by cases p0.Ops <;> rfl) rfl rfl rfl (fun p h => ⟨h, fun e => by cases e⟩) ?_
  obtain ⟨l919, hx920, h⟩ := obind_some h
  refine O_app (sl' := [21]) (f := T38.enc) (s := (some ([], []))) p0.Ops rfl rfl rfl rfl rfl rfl (tail_sl (y := p0.Ops) (f := T38.enc) rfl rfl) rfl rfl rfl rfl rfl hx920 rfl rfl rfl ?_
  refine O_load (cl' := cl) (sl' := [21]) (.agg [.str x895.1.Name, .int .i64 x895.1.Agg, .int .i64 x895.1.Windows_Kind, .int .i64 x895.1.Windows_Size, .int .i64 x895.1.Windows_Slide]) rfl rfl hb913 rfl rfl rfl rfl (fun p h => ⟨h, fun e => by cases e⟩) ?_
  refine O_bslice (sl' := [23, 21]) [(0, .agg [.str x895.1.Name, .int .i64 x895.1.Agg, .int .i64 x895.1.Windows_Kind, .int .i64 x895.1.Windows_Size, .int .i64 x895.1.Windows_Slide])] [.agg [.str x895.1.Name, .int .i64 x895.1.Agg, .int .i64 x895.1.Windows_Kind, .int .i64 x895.1.Windows_Size, .int .i64 x895.1.Windows_Slide]] rfl rfl rfl rfl rfl rfl ?_
  obtain ⟨l921, hx922, h⟩ := obind_some h
  refine O_app (sl' := [24, 23]) (f := T38.enc) (s := l919) (some ([x895.1], [])) rfl rfl rfl rfl rfl rfl (tail_sl (y := (some ([x895.1], []))) (f := T38.enc) rfl rfl) rfl rfl rfl rfl rfl hx922 rfl rfl rfl ?_
  refine O_pure (sl' := [24, 23]) (.ptr id877 4) rfl rfl rfl rfl ?_
  refine O_store (sl' := [23]) (cl' := cl) (Sl.enc 38 T38.enc l921) rfl rfl rfl ho880.lo hb914 (by cases l921 <;> rfl) rfl (by intro q hq; simp only [List.mem_cons, List.not_mem_nil, or_false] at hq; rcases hq with rfl <;> exact ⟨by simp, fun _ e => by cases e⟩) (fun i o h => .inr ⟨h, fun e => ho880.cl i o h e.1⟩) fun H923 hH924 => ?_
  have hb925 : H923[id877]? = some (some ⟨25, [.int .i64 p0.Groups, .int .i64 p0.Sources, .int .i64 p0.Bound, .int .i64 p0.Late, Sl.enc 38 T38.enc l921]⟩) := by subst hH924; rw [Sl.cells_enc]; exact get_set_same hb914 _
  have hb926 := getS hH924 (fun e => hn888 e.symm) hb915
  have hb927 := getS hH924 (fun e => hn906 e.symm) hb913
  have hk928 := kpS hH924 ho880.ge hk916
  refine O_nil ?_
  refine keep_to [(3, .ptr id877 0), (6, .ptr id884 0), (9, .bool x895.2)] [] rfl rfl ?_
  refine C_seq ?_
  refine C_draw0 none (m := true) rfl rfl rfl fun b929 hb930 => ?_
  refine oL (.agg [.int .i64 p0.Groups, .int .i64 p0.Sources, .int .i64 p0.Bound, .int .i64 p0.Late, Sl.enc 38 T38.enc l921]) hb925 ?_
  refine oM (.bool x895.2) ?_
  rcases Bool.eq_false_or_eq_true (x895.2) with hg931 | hg931
  ·replace h := ocond_t h hg931
   refine O_move (sl' := []) (.bool true) rfl (congrArg (fun b => some (AV.bool b)) hg931) rfl rfl rfl ?_
   refine oL (.agg [.int .i64 p0.Groups, .int .i64 p0.Sources, .int .i64 p0.Bound, .int .i64 p0.Late, Sl.enc 38 T38.enc l921]) hb925 ?_
   obtain ⟨x935, hx936, h⟩ := obind_some h
   refine O_call (sl' := []) [.agg [.int .i64 p0.Groups, .int .i64 p0.Sources, .int .i64 p0.Bound, .int .i64 p0.Late, Sl.enc 38 T38.enc l921]] rfl rfl rfl rfl (above_of (hf.kp hk928)) rfl rfl (w16 N (lo := (max lo H923.length)) (T25.mk p0.Groups p0.Sources p0.Bound p0.Late l921) (hf.kp hk928).up hx936) ?_
   rintro _ H932 _ ⟨rfl, hk933, rfl⟩
   have hb937 := hk933.get0 hb925
   have hb938 := hk933.get0 hb926
   have hk939 := hk928.trans hk933
   refine oP (.bool ((x935 : Int) == 0)) ?_
   refine oP (.bool ((x935 : Int) == 0)) ?_
   refine O_store (sl' := []) (cl' := cl) (.agg [.int .i64 p0.Groups, .int .i64 p0.Sources, .int .i64 p0.Bound, .int .i64 p0.Late, Sl.enc 38 T38.enc l921]) rfl rfl rfl ho887.lo hb938 rfl rfl (fun q h => by cases h) (fun i o h => .inr ⟨h, fun e => ho887.cl i o h e.1⟩) fun H940 hH941 => ?_
   have hb942 : H940[id884]? = some (some ⟨25, [.int .i64 p0.Groups, .int .i64 p0.Sources, .int .i64 p0.Bound, .int .i64 p0.Late, Sl.enc 38 T38.enc l921]⟩) := getW hH941 hb938
   have hb943 := getS hH941 hn888 hb937
   have hk944 := kpS hH941 ho887.ge hk939
   refine oA (.bool ((x935 : Int) == 0)) ?_
   refine O_nil ?_
   refine keep_to [(6, .ptr id884 0), (7, .bool ((x935 : Int) == 0))] [] rfl rfl ?_
   refine C_ret ?_
   obtain rfl := Option.some.inj h
   exact ⟨_, (ress_two (resM_cons (resE_cell rfl hb942 rfl) (resM_cons rfl resM_nil))), rfl, hk944, rfl⟩
  ·replace h := ocond_f h hg931
   refine O_move (sl' := []) (.bool false) rfl (congrArg (fun b => some (AV.bool b)) hg931) rfl rfl rfl ?_
   refine O_skip rfl rfl ?_
   refine O_skip rfl rfl ?_
   refine O_skip rfl rfl ?_
   refine oP (.bool false) ?_
   refine O_store (sl' := []) (cl' := cl) (.agg [.int .i64 p0.Groups, .int .i64 p0.Sources, .int .i64 p0.Bound, .int .i64 p0.Late, Sl.enc 38 T38.enc l921]) rfl rfl rfl ho887.lo hb926 rfl rfl (fun q h => by cases h) (fun i o h => .inr ⟨h, fun e => ho887.cl i o h e.1⟩) fun H945 hH946 => ?_
   have hb947 : H945[id884]? = some (some ⟨25, [.int .i64 p0.Groups, .int .i64 p0.Sources, .int .i64 p0.Bound, .int .i64 p0.Late, Sl.enc 38 T38.enc l921]⟩) := getW hH946 hb926
   have hb948 := getS hH946 hn888 hb925
   have hk949 := kpS hH946 ho887.ge hk928
   refine oA (.bool false) ?_
   refine O_nil ?_
   refine keep_to [(6, .ptr id884 0), (7, .bool false)] [] rfl rfl ?_
   refine C_ret ?_
   obtain rfl := Option.some.inj h
   exact ⟨_, (ress_two (resM_cons (resE_cell rfl hb947 rfl) (resM_cons rfl resM_nil))), rfl, hk949, rfl⟩
 ·replace h := ocond_f h hc891
  refine C_skip ?_
  refine C_seq ?_
  refine C_seq ?_
  refine C_reg ?_
  refine oM (Sl.enc 9 AV.str p2) ?_
  refine oQ (.int .i64 (Sl.len p2)) (len_sl (f := AV.str) rfl rfl rfl rfl) ?_
  refine oP (.bool ((Sl.len p2 : Int) != 2)) ?_
  refine O_nil ?_
  refine keep_to [(1, .int .i64 p1), (2, Sl.enc 9 AV.str p2), (3, .ptr id877 0), (6, .ptr id884 0), (35, .bool ((Sl.len p2 : Int) != 2))] [] rfl rfl ?_
  refine C_cond ((Sl.len p2 : Int) != 2) rfl (fun hc950 => ?_) (fun hc950 => ?_)
  ·replace h := ocond_t h hc950
   refine C_seq ?_
   refine C_reg ?_
   refine oL (.agg [.int .i64 p0.Groups, .int .i64 p0.Sources, .int .i64 p0.Bound, .int .i64 p0.Late, Sl.enc 38 T38.enc p0.Ops]) hb889 ?_
   refine O_store (sl' := []) (cl' := cl) (.agg [.int .i64 p0.Groups, .int .i64 p0.Sources, .int .i64 p0.Bound, .int .i64 p0.Late, Sl.enc 38 T38.enc p0.Ops]) rfl rfl rfl ho887.lo hb883 rfl rfl (fun q h => by cases h) (fun i o h => .inr ⟨h, fun e => ho887.cl i o h e.1⟩) fun H951 hH952 => ?_
   have hb953 : H951[id884]? = some (some ⟨25, [.int .i64 p0.Groups, .int .i64 p0.Sources, .int .i64 p0.Bound, .int .i64 p0.Late, Sl.enc 38 T38.enc p0.Ops]⟩) := getW hH952 hb883
   have hb954 := getS hH952 hn888 hb889
   have hk955 := kpS hH952 ho887.ge hk890
   refine oB (.bool false) ?_
   refine O_nil ?_
   refine keep_to [(6, .ptr id884 0), (7, .bool false)] [] rfl rfl ?_
   refine C_ret ?_
   obtain rfl := Option.some.inj h
   exact ⟨_, (ress_two (resM_cons (resE_cell rfl hb953 rfl) (resM_cons rfl resM_nil))), rfl, hk955, rfl⟩
  ·replace h := ocond_f h hc950
   refine C_skip ?_
   refine C_seq ?_
   refine C_reg ?_
   refine oM (Sl.enc 9 AV.str p2) ?_
   obtain ⟨o956, hx957, h⟩ := obind_some h
   refine oQ (.ept [.str o956] 0) (idx_sl (f := AV.str) rfl rfl rfl hx957) ?_
   refine oE (.str o956) ?_
   obtain ⟨x961, hx962, h⟩ := obind_some h
   refine oK [.str o956] (w44 N (lo := lo) o956 (hf.kp hk890) hx962) ?_
   rintro _ H958 _ ⟨rfl, hk959, rfl⟩
   have hb963 := hk959.get0 hb889
   have hb964 := hk959.get0 hb883
   have hk965 := hk890.trans hk959
   refine oA (.int .i64 x961) ?_
   refine O_nil ?_
   refine keep_to [(1, .int .i64 p1), (2, Sl.enc 9 AV.str p2), (3, .ptr id877 0), (6, .ptr id884 0), (10, .int .i64 x961)] [] rfl rfl ?_
   refine C_seq ?_
   refine C_seq ?_
   refine C_reg ?_
   refine oM (.int .i64 p1) ?_
   refine oP (.bool ((p1 : Int) == 0)) ?_
   refine O_nil ?_
   refine keep_to [(1, .int .i64 p1), (2, Sl.enc 9 AV.str p2), (3, .ptr id877 0), (6, .ptr id884 0), (10, .int .i64 x961), (42, .bool ((p1 : Int) == 0))] [] rfl rfl ?_
   refine C_cond ((p1 : Int) == 0) rfl (fun hc966 => ?_) (fun hc966 => ?_)
   ·replace h := ocond_t h hc966
    refine C_seq ?_
    refine C_reg ?_
    refine oM (.int .i64 x961) ?_
    refine oP (.ptr id877 0) ?_
    refine O_store (sl' := []) (cl' := cl) (.int .i64 x961) rfl rfl rfl ho880.lo hb963 rfl rfl (fun q h => by cases h) (fun i o h => .inr ⟨h, fun e => ho880.cl i o h e.1⟩) fun H967 hH968 => ?_
    have hb969 : H967[id877]? = some (some ⟨25, [.int .i64 x961, .int .i64 p0.Sources, .int .i64 p0.Bound, .int .i64 p0.Late, Sl.enc 38 T38.enc p0.Ops]⟩) := getW hH968 hb963
    have hb970 := getS hH968 (fun e => hn888 e.symm) hb964
    have hk971 := kpS hH968 ho880.ge hk965
    refine O_nil ?_
    refine keep_to [(2, Sl.enc 9 AV.str p2), (3, .ptr id877 0), (6, .ptr id884 0), (10, .int .i64 x961)] [] rfl rfl ?_
    refine C_seq ?_
    refine C_draw0 none (m := false) rfl rfl rfl fun b972 hb973 => ?_
    refine oL (.agg [.int .i64 x961, .int .i64 p0.Sources, .int .i64 p0.Bound, .int .i64 p0.Late, Sl.enc 38 T38.enc p0.Ops]) hb969 ?_
    refine oM (Sl.enc 9 AV.str p2) ?_
    obtain ⟨o974, hx975, h⟩ := obind_some h
    refine oQ (.ept [.str o974] 0) (idx_sl (f := AV.str) rfl rfl rfl hx975) ?_
    refine oE (.str o974) ?_
    refine oP (.bool ((o974 : Bs) == [103, 114, 111, 117, 112, 115])) ?_
    rcases Bool.eq_false_or_eq_true ((o974 : Bs) == [103, 114, 111, 117, 112, 115]) with hg976 | hg976
    ·replace h := ocond_t h hg976
     refine O_move (sl' := []) (.bool true) rfl (congrArg (fun b => some (AV.bool b)) hg976) rfl rfl rfl ?_
     refine oM (.int .i64 x961) ?_
     refine oP (.bool (decide ((x961 : Int) ≥ 1))) ?_
     refine oP (.bool (decide ((x961 : Int) ≥ 1))) ?_
     rcases Bool.eq_false_or_eq_true (decide ((x961 : Int) ≥ 1)) with hg977 | hg977
     ·replace h := ocond_t h hg977
      refine O_move (sl' := []) (.bool true) rfl (congrArg (fun b => some (AV.bool b)) hg977) rfl rfl rfl ?_
      refine oM (.int .i64 x961) ?_
      refine oP (.bool (decide ((x961 : Int) ≤ 64))) ?_
      refine oP (.bool (decide ((x961 : Int) ≤ 64))) ?_
      refine O_store (sl' := []) (cl' := cl) (.agg [.int .i64 x961, .int .i64 p0.Sources, .int .i64 p0.Bound, .int .i64 p0.Late, Sl.enc 38 T38.enc p0.Ops]) rfl rfl rfl ho887.lo hb970 rfl rfl (fun q h => by cases h) (fun i o h => .inr ⟨h, fun e => ho887.cl i o h e.1⟩) fun H978 hH979 => ?_
      have hb980 : H978[id884]? = some (some ⟨25, [.int .i64 x961, .int .i64 p0.Sources, .int .i64 p0.Bound, .int .i64 p0.Late, Sl.enc 38 T38.enc p0.Ops]⟩) := getW hH979 hb970
      have hb981 := getS hH979 hn888 hb969
      have hk982 := kpS hH979 ho887.ge hk971
      refine oA (.bool (decide ((x961 : Int) ≤ 64))) ?_
      refine O_nil ?_
      refine keep_to [(6, .ptr id884 0), (7, .bool (decide ((x961 : Int) ≤ 64)))] [] rfl rfl ?_
      refine C_ret ?_
      obtain rfl := Option.some.inj h
      exact ⟨_, (ress_two (resM_cons (resE_cell rfl hb980 rfl) (resM_cons rfl resM_nil))), rfl, hk982, rfl⟩
     ·replace h := ocond_f h hg977
      refine O_move (sl' := []) (.bool false) rfl (congrArg (fun b => some (AV.bool b)) hg977) rfl rfl rfl ?_
      refine O_skip rfl rfl ?_
      refine O_skip rfl rfl ?_
      refine oP (.bool false) ?_
      refine O_store (sl' := []) (cl' := cl) (.agg [.int .i64 x961, .int .i64 p0.Sources, .int .i64 p0.Bound, .int .i64 p0.Late, Sl.enc 38 T38.enc p0.Ops]) rfl rfl rfl ho887.lo hb970 rfl rfl (fun q h => by cases h) (fun i o h => .inr ⟨h, fun e => ho887.cl i o h e.1⟩) fun H983 hH984 => ?_
      have hb985 : H983[id884]? = some (some ⟨25, [.int .i64 x961, .int .i64 p0.Sources, .int .i64 p0.Bound, .int .i64 p0.Late, Sl.enc 38 T38.enc p0.Ops]⟩) := getW hH984 hb970
      have hb986 := getS hH984 hn888 hb969
      have hk987 := kpS hH984 ho887.ge hk971
      refine oA (.bool false) ?_
      refine O_nil ?_
      refine keep_to [(6, .ptr id884 0), (7, .bool false)] [] rfl rfl ?_
      refine C_ret ?_
      obtain rfl := Option.some.inj h
      exact ⟨_, (ress_two (resM_cons (resE_cell rfl hb985 rfl) (resM_cons rfl resM_nil))), rfl, hk987, rfl⟩
    ·replace h := ocond_f h hg976
     refine O_move (sl' := []) (.bool false) rfl (congrArg (fun b => some (AV.bool b)) hg976) rfl rfl rfl ?_
     refine O_skip rfl rfl ?_
     refine O_skip rfl rfl ?_
     refine oP (.bool false) ?_
     refine oM (.bool false) ?_
     refine O_skip rfl rfl ?_
     refine O_skip rfl rfl ?_
     refine oP (.bool false) ?_
     refine O_store (sl' := []) (cl' := cl) (.agg [.int .i64 x961, .int .i64 p0.Sources, .int .i64 p0.Bound, .int .i64 p0.Late, Sl.enc 38 T38.enc p0.Ops]) rfl rfl rfl ho887.lo hb970 rfl rfl (fun q h => by cases h) (fun i o h => .inr ⟨h, fun e => ho887.cl i o h e.1⟩) fun H988 hH989 => ?_
     have hb990 : H988[id884]? = some (some ⟨25, [.int .i64 x961, .int .i64 p0.Sources, .int .i64 p0.Bound, .int .i64 p0.Late, Sl.enc 38 T38.enc p0.Ops]⟩) := getW hH989 hb970
     have hb991 := getS hH989 hn888 hb969
     have hk992 := kpS hH989 ho887.ge hk971
     refine oA (.bool false) ?_
     refine O_nil ?_
     refine keep_to [(6, .ptr id884 0), (7, .bool false)] [] rfl rfl ?_
     refine C_ret ?_
     obtain rfl := Option.some.inj h
     exact ⟨_, (ress_two (resM_cons (resE_cell rfl hb990 rfl) (resM_cons rfl resM_nil))), rfl, hk992, rfl⟩
   ·replace h := ocond_f h hc966
    refine C_skip ?_
    refine C_seq ?_
    refine C_seq ?_
    refine C_reg ?_
    refine oM (.int .i64 p1) ?_
    refine oP (.bool ((p1 : Int) == 1)) ?_
    refine O_nil ?_
    refine keep_to [(1, .int .i64 p1), (2, Sl.enc 9 AV.str p2), (3, .ptr id877 0), (6, .ptr id884 0), (10, .int .i64 x961), (59, .bool ((p1 : Int) == 1))] [] rfl rfl ?_
    refine C_cond ((p1 : Int) == 1) rfl (fun hc993 => ?_) (fun hc993 => ?_)
    ·replace h := ocond_t h hc993
     refine C_seq ?_
     refine C_reg ?_
     refine oM (.int .i64 x961) ?_
     refine oP (.ptr id877 1) ?_
     refine O_store (sl' := []) (cl' := cl) (.int .i64 x961) rfl rfl rfl ho880.lo hb963 rfl rfl (fun q h => by cases h) (fun i o h => .inr ⟨h, fun e => ho880.cl i o h e.1⟩) fun H994 hH995 => ?_
     have hb996 : H994[id877]? = some (some ⟨25, [.int .i64 p0.Groups, .int .i64 x961, .int .i64 p0.Bound, .int .i64 p0.Late, Sl.enc 38 T38.enc p0.Ops]⟩) := getW hH995 hb963
     have hb997 := getS hH995 (fun e => hn888 e.symm) hb964
     have hk998 := kpS hH995 ho880.ge hk965
     refine O_nil ?_
     refine keep_to [(2, Sl.enc 9 AV.str p2), (3, .ptr id877 0), (6, .ptr id884 0), (10, .int .i64 x961)] [] rfl rfl ?_
     refine C_seq ?_
     refine C_draw0 none (m := false) rfl rfl rfl fun b999 hb1000 => ?_
     refine oL (.agg [.int .i64 p0.Groups, .int .i64 x961, .int .i64 p0.Bound, .int .i64 p0.Late, Sl.enc 38 T38.enc p0.Ops]) hb996 ?_
     refine oM (Sl.enc 9 AV.str p2) ?_
     obtain ⟨o1001, hx1002, h⟩ := obind_some h
     refine oQ (.ept [.str o1001] 0) (idx_sl (f := AV.str) rfl rfl rfl hx1002) ?_
     refine oE (.str o1001) ?_
     refine oP (.bool ((o1001 : Bs) == [115, 111, 117, 114, 99, 101, 115])) ?_
     rcases Bool.eq_false_or_eq_true ((o1001 : Bs) == [115, 111, 117, 114, 99, 101, 115]) with hg1003 | hg1003
     ·replace h := ocond_t h hg1003
      refine O_move (sl' := []) (.bool true) rfl (congrArg (fun b => some (AV.bool b)) hg1003) rfl rfl rfl ?_
      refine oM (.int .i64 x961) ?_
      refine oP (.bool (decide ((x961 : Int) ≥ 1))) ?_
      refine oP (.bool (decide ((x961 : Int) ≥ 1))) ?_
      rcases Bool.eq_false_or_eq_true (decide ((x961 : Int) ≥ 1)) with hg1004 | hg1004
      ·replace h := ocond_t h hg1004
       refine O_move (sl' := []) (.bool true) rfl (congrArg (fun b => some (AV.bool b)) hg1004) rfl rfl rfl ?_
       refine oM (.int .i64 x961) ?_
       refine oP (.bool (decide ((x961 : Int) ≤ 16))) ?_
       refine oP (.bool (decide ((x961 : Int) ≤ 16))) ?_
       refine O_store (sl' := []) (cl' := cl) (.agg [.int .i64 p0.Groups, .int .i64 x961, .int .i64 p0.Bound, .int .i64 p0.Late, Sl.enc 38 T38.enc p0.Ops]) rfl rfl rfl ho887.lo hb997 rfl rfl (fun q h => by cases h) (fun i o h => .inr ⟨h, fun e => ho887.cl i o h e.1⟩) fun H1005 hH1006 => ?_
       have hb1007 : H1005[id884]? = some (some ⟨25, [.int .i64 p0.Groups, .int .i64 x961, .int .i64 p0.Bound, .int .i64 p0.Late, Sl.enc 38 T38.enc p0.Ops]⟩) := getW hH1006 hb997
       have hb1008 := getS hH1006 hn888 hb996
       have hk1009 := kpS hH1006 ho887.ge hk998
       refine oA (.bool (decide ((x961 : Int) ≤ 16))) ?_
       refine O_nil ?_
       refine keep_to [(6, .ptr id884 0), (7, .bool (decide ((x961 : Int) ≤ 16)))] [] rfl rfl ?_
       refine C_ret ?_
       obtain rfl := Option.some.inj h
       exact ⟨_, (ress_two (resM_cons (resE_cell rfl hb1007 rfl) (resM_cons rfl resM_nil))), rfl, hk1009, rfl⟩
      ·replace h := ocond_f h hg1004
       refine O_move (sl' := []) (.bool false) rfl (congrArg (fun b => some (AV.bool b)) hg1004) rfl rfl rfl ?_
       refine O_skip rfl rfl ?_
       refine O_skip rfl rfl ?_
       refine oP (.bool false) ?_
       refine O_store (sl' := []) (cl' := cl) (.agg [.int .i64 p0.Groups, .int .i64 x961, .int .i64 p0.Bound, .int .i64 p0.Late, Sl.enc 38 T38.enc p0.Ops]) rfl rfl rfl ho887.lo hb997 rfl rfl (fun q h => by cases h) (fun i o h => .inr ⟨h, fun e => ho887.cl i o h e.1⟩) fun H1010 hH1011 => ?_
       have hb1012 : H1010[id884]? = some (some ⟨25, [.int .i64 p0.Groups, .int .i64 x961, .int .i64 p0.Bound, .int .i64 p0.Late, Sl.enc 38 T38.enc p0.Ops]⟩) := getW hH1011 hb997
       have hb1013 := getS hH1011 hn888 hb996
       have hk1014 := kpS hH1011 ho887.ge hk998
       refine oA (.bool false) ?_
       refine O_nil ?_
       refine keep_to [(6, .ptr id884 0), (7, .bool false)] [] rfl rfl ?_
       refine C_ret ?_
       obtain rfl := Option.some.inj h
       exact ⟨_, (ress_two (resM_cons (resE_cell rfl hb1012 rfl) (resM_cons rfl resM_nil))), rfl, hk1014, rfl⟩
     ·replace h := ocond_f h hg1003
      refine O_move (sl' := []) (.bool false) rfl (congrArg (fun b => some (AV.bool b)) hg1003) rfl rfl rfl ?_
      refine O_skip rfl rfl ?_
      refine O_skip rfl rfl ?_
      refine oP (.bool false) ?_
      refine oM (.bool false) ?_
      refine O_skip rfl rfl ?_
      refine O_skip rfl rfl ?_
      refine oP (.bool false) ?_
      refine O_store (sl' := []) (cl' := cl) (.agg [.int .i64 p0.Groups, .int .i64 x961, .int .i64 p0.Bound, .int .i64 p0.Late, Sl.enc 38 T38.enc p0.Ops]) rfl rfl rfl ho887.lo hb997 rfl rfl (fun q h => by cases h) (fun i o h => .inr ⟨h, fun e => ho887.cl i o h e.1⟩) fun H1015 hH1016 => ?_
      have hb1017 : H1015[id884]? = some (some ⟨25, [.int .i64 p0.Groups, .int .i64 x961, .int .i64 p0.Bound, .int .i64 p0.Late, Sl.enc 38 T38.enc p0.Ops]⟩) := getW hH1016 hb997
      have hb1018 := getS hH1016 hn888 hb996
      have hk1019 := kpS hH1016 ho887.ge hk998
      refine oA (.bool false) ?_
      refine O_nil ?_
      refine keep_to [(6, .ptr id884 0), (7, .bool false)] [] rfl rfl ?_
      refine C_ret ?_
      obtain rfl := Option.some.inj h
      exact ⟨_, (ress_two (resM_cons (resE_cell rfl hb1017 rfl) (resM_cons rfl resM_nil))), rfl, hk1019, rfl⟩
    ·replace h := ocond_f h hc993
     refine C_skip ?_
     refine C_seq ?_
     refine C_seq ?_
     refine C_reg ?_
     refine oM (.int .i64 p1) ?_
     refine oP (.bool ((p1 : Int) == 2)) ?_
     refine O_nil ?_
     refine keep_to [(2, Sl.enc 9 AV.str p2), (3, .ptr id877 0), (6, .ptr id884 0), (10, .int .i64 x961), (76, .bool ((p1 : Int) == 2))] [] rfl rfl ?_
     refine C_cond ((p1 : Int) == 2) rfl (fun hc1020 => ?_) (fun hc1020 => ?_)
     ·replace h := ocond_t h hc1020
      refine C_seq ?_
      refine C_reg ?_
      refine oM (.int .i64 x961) ?_
      refine oP (.ptr id877 2) ?_
      refine O_store (sl' := []) (cl' := cl) (.int .i64 x961) rfl rfl rfl ho880.lo hb963 rfl rfl (fun q h => by cases h) (fun i o h => .inr ⟨h, fun e => ho880.cl i o h e.1⟩) fun H1021 hH1022 => ?_
      have hb1023 : H1021[id877]? = some (some ⟨25, [.int .i64 p0.Groups, .int .i64 p0.Sources, .int .i64 x961, .int .i64 p0.Late, Sl.enc 38 T38.enc p0.Ops]⟩) := getW hH1022 hb963
      have hb1024 := getS hH1022 (fun e => hn888 e.symm) hb964
      have hk1025 := kpS hH1022 ho880.ge hk965
      refine O_nil ?_
      refine keep_to [(2, Sl.enc 9 AV.str p2), (3, .ptr id877 0), (6, .ptr id884 0), (10, .int .i64 x961)] [] rfl rfl ?_
      refine C_seq ?_
      refine C_draw0 none (m := false) rfl rfl rfl fun b1026 hb1027 => ?_
      refine oL (.agg [.int .i64 p0.Groups, .int .i64 p0.Sources, .int .i64 x961, .int .i64 p0.Late, Sl.enc 38 T38.enc p0.Ops]) hb1023 ?_
      refine oM (Sl.enc 9 AV.str p2) ?_
      obtain ⟨o1028, hx1029, h⟩ := obind_some h
      refine oQ (.ept [.str o1028] 0) (idx_sl (f := AV.str) rfl rfl rfl hx1029) ?_
      refine oE (.str o1028) ?_
      refine oP (.bool ((o1028 : Bs) == [98, 111, 117, 110, 100])) ?_
      rcases Bool.eq_false_or_eq_true ((o1028 : Bs) == [98, 111, 117, 110, 100]) with hg1030 | hg1030
      ·replace h := ocond_t h hg1030
       refine O_move (sl' := []) (.bool true) rfl (congrArg (fun b => some (AV.bool b)) hg1030) rfl rfl rfl ?_
       refine oM (.int .i64 x961) ?_
       refine oP (.bool (decide ((x961 : Int) ≥ 0))) ?_
       refine oP (.bool (decide ((x961 : Int) ≥ 0))) ?_
       refine O_store (sl' := []) (cl' := cl) (.agg [.int .i64 p0.Groups, .int .i64 p0.Sources, .int .i64 x961, .int .i64 p0.Late, Sl.enc 38 T38.enc p0.Ops]) rfl rfl rfl ho887.lo hb1024 rfl rfl (fun q h => by cases h) (fun i o h => .inr ⟨h, fun e => ho887.cl i o h e.1⟩) fun H1031 hH1032 => ?_
       have hb1033 : H1031[id884]? = some (some ⟨25, [.int .i64 p0.Groups, .int .i64 p0.Sources, .int .i64 x961, .int .i64 p0.Late, Sl.enc 38 T38.enc p0.Ops]⟩) := getW hH1032 hb1024
       have hb1034 := getS hH1032 hn888 hb1023
       have hk1035 := kpS hH1032 ho887.ge hk1025
       refine oA (.bool (decide ((x961 : Int) ≥ 0))) ?_
       refine O_nil ?_
       refine keep_to [(6, .ptr id884 0), (7, .bool (decide ((x961 : Int) ≥ 0)))] [] rfl rfl ?_
       refine C_ret ?_
       obtain rfl := Option.some.inj h
       exact ⟨_, (ress_two (resM_cons (resE_cell rfl hb1033 rfl) (resM_cons rfl resM_nil))), rfl, hk1035, rfl⟩
      ·replace h := ocond_f h hg1030
       refine O_move (sl' := []) (.bool false) rfl (congrArg (fun b => some (AV.bool b)) hg1030) rfl rfl rfl ?_
       refine O_skip rfl rfl ?_
       refine O_skip rfl rfl ?_
       refine oP (.bool false) ?_
       refine O_store (sl' := []) (cl' := cl) (.agg [.int .i64 p0.Groups, .int .i64 p0.Sources, .int .i64 x961, .int .i64 p0.Late, Sl.enc 38 T38.enc p0.Ops]) rfl rfl rfl ho887.lo hb1024 rfl rfl (fun q h => by cases h) (fun i o h => .inr ⟨h, fun e => ho887.cl i o h e.1⟩) fun H1036 hH1037 => ?_
       have hb1038 : H1036[id884]? = some (some ⟨25, [.int .i64 p0.Groups, .int .i64 p0.Sources, .int .i64 x961, .int .i64 p0.Late, Sl.enc 38 T38.enc p0.Ops]⟩) := getW hH1037 hb1024
       have hb1039 := getS hH1037 hn888 hb1023
       have hk1040 := kpS hH1037 ho887.ge hk1025
       refine oA (.bool false) ?_
       refine O_nil ?_
       refine keep_to [(6, .ptr id884 0), (7, .bool false)] [] rfl rfl ?_
       refine C_ret ?_
       obtain rfl := Option.some.inj h
       exact ⟨_, (ress_two (resM_cons (resE_cell rfl hb1038 rfl) (resM_cons rfl resM_nil))), rfl, hk1040, rfl⟩
     ·replace h := ocond_f h hc1020
      refine C_skip ?_
      refine C_seq ?_
      refine C_reg ?_
      refine oM (.int .i64 x961) ?_
      refine oP (.ptr id877 3) ?_
      refine O_store (sl' := []) (cl' := cl) (.int .i64 x961) rfl rfl rfl ho880.lo hb963 rfl rfl (fun q h => by cases h) (fun i o h => .inr ⟨h, fun e => ho880.cl i o h e.1⟩) fun H1041 hH1042 => ?_
      have hb1043 : H1041[id877]? = some (some ⟨25, [.int .i64 p0.Groups, .int .i64 p0.Sources, .int .i64 p0.Bound, .int .i64 x961, Sl.enc 38 T38.enc p0.Ops]⟩) := getW hH1042 hb963
      have hb1044 := getS hH1042 (fun e => hn888 e.symm) hb964
      have hk1045 := kpS hH1042 ho880.ge hk965
      refine O_nil ?_
      refine keep_to [(2, Sl.enc 9 AV.str p2), (3, .ptr id877 0), (6, .ptr id884 0), (10, .int .i64 x961)] [] rfl rfl ?_
      refine C_seq ?_
      refine C_draw0 none (m := false) rfl rfl rfl fun b1046 hb1047 => ?_
      refine oL (.agg [.int .i64 p0.Groups, .int .i64 p0.Sources, .int .i64 p0.Bound, .int .i64 x961, Sl.enc 38 T38.enc p0.Ops]) hb1043 ?_
      refine oM (Sl.enc 9 AV.str p2) ?_
      obtain ⟨o1048, hx1049, h⟩ := obind_some h
      refine oQ (.ept [.str o1048] 0) (idx_sl (f := AV.str) rfl rfl rfl hx1049) ?_
      refine oE (.str o1048) ?_
      refine oP (.bool ((o1048 : Bs) == [108, 97, 116, 101])) ?_
      rcases Bool.eq_false_or_eq_true ((o1048 : Bs) == [108, 97, 116, 101]) with hg1050 | hg1050
      ·replace h := ocond_t h hg1050
       refine O_move (sl' := []) (.bool true) rfl (congrArg (fun b => some (AV.bool b)) hg1050) rfl rfl rfl ?_
       refine oM (.int .i64 x961) ?_
       refine oP (.bool (decide ((x961 : Int) ≥ 0))) ?_
       refine oP (.bool (decide ((x961 : Int) ≥ 0))) ?_
       refine O_store (sl' := []) (cl' := cl) (.agg [.int .i64 p0.Groups, .int .i64 p0.Sources, .int .i64 p0.Bound, .int .i64 x961, Sl.enc 38 T38.enc p0.Ops]) rfl rfl rfl ho887.lo hb1044 rfl rfl (fun q h => by cases h) (fun i o h => .inr ⟨h, fun e => ho887.cl i o h e.1⟩) fun H1051 hH1052 => ?_
       have hb1053 : H1051[id884]? = some (some ⟨25, [.int .i64 p0.Groups, .int .i64 p0.Sources, .int .i64 p0.Bound, .int .i64 x961, Sl.enc 38 T38.enc p0.Ops]⟩) := getW hH1052 hb1044
       have hb1054 := getS hH1052 hn888 hb1043
       have hk1055 := kpS hH1052 ho887.ge hk1045
       refine oA (.bool (decide ((x961 : Int) ≥ 0))) ?_
       refine O_nil ?_
       refine keep_to [(6, .ptr id884 0), (7, .bool (decide ((x961 : Int) ≥ 0)))] [] rfl rfl ?_
       refine C_ret ?_
       obtain rfl := Option.some.inj h
       exact ⟨_, (ress_two (resM_cons (resE_cell rfl hb1053 rfl) (resM_cons rfl resM_nil))), rfl, hk1055, rfl⟩
      ·replace h := ocond_f h hg1050
       refine O_move (sl' := []) (.bool false) rfl (congrArg (fun b => some (AV.bool b)) hg1050) rfl rfl rfl ?_
       refine O_skip rfl rfl ?_
       refine O_skip rfl rfl ?_
       refine oP (.bool false) ?_
       refine O_store (sl' := []) (cl' := cl) (.agg [.int .i64 p0.Groups, .int .i64 p0.Sources, .int .i64 p0.Bound, .int .i64 x961, Sl.enc 38 T38.enc p0.Ops]) rfl rfl rfl ho887.lo hb1044 rfl rfl (fun q h => by cases h) (fun i o h => .inr ⟨h, fun e => ho887.cl i o h e.1⟩) fun H1056 hH1057 => ?_
       have hb1058 : H1056[id884]? = some (some ⟨25, [.int .i64 p0.Groups, .int .i64 p0.Sources, .int .i64 p0.Bound, .int .i64 x961, Sl.enc 38 T38.enc p0.Ops]⟩) := getW hH1057 hb1044
       have hb1059 := getS hH1057 hn888 hb1043
       have hk1060 := kpS hH1057 ho887.ge hk1045
       refine oA (.bool false) ?_
       refine O_nil ?_
       refine keep_to [(6, .ptr id884 0), (7, .bool false)] [] rfl rfl ?_
       refine C_ret ?_
       obtain rfl := Option.some.inj h
       exact ⟨_, (ress_two (resM_cons (resE_cell rfl hb1058 rfl) (resM_cons rfl resM_nil))), rfl, hk1060, rfl⟩
set_option linter.unusedVariables false in
def s11_l0 (N : Nat) (k1191 : (Int × Int × Int × Int × Int × (Sl T38)) → Option (T25 × Int × Int)) : Nat → Bs → Int → Int → Int → Int → Int → (Sl T38) → Option (T25 × Int × Int)
  | 0, _, _, _, _, _, _, _ => none
  | n + 1, v0, v6, wid1183_0, wid1183_1, wid1183_2, wid1183_3, wid1183_4 => (
cond (decide ((((List.length v0 : Nat) : Int) : Int) > 0))
 (Option.bind (s23 N v0 10) fun x1201 =>
Option.bind (scut v0 none (some x1201)) fun s1214 =>
Option.bind (s25 N s1214) fun x1219 =>
Option.bind (s24 N (T25.mk wid1183_0 wid1183_1 wid1183_2 wid1183_3 wid1183_4) v6 x1219) fun x1228 =>
Option.bind (cond (!x1228.2)
 (some true)
 (some ((x1201 : Int) == ((List.length v0 : Nat) : Int)))) fun (v1249 : Bool) =>
cond (v1249)
 (some ((T25.mk 0 0 0 0 none), (IntKind.wrap .i64 (v6 + 1)), 7))
 (Option.bind (scut v0 (some (IntKind.wrap .i64 (x1201 + 1))) none) fun s1270 =>
s11_l0 N k1191 n s1270 (IntKind.wrap .i64 (v6 + 1)) x1228.1.Groups x1228.1.Sources x1228.1.Bound x1228.1.Late x1228.1.Ops))
 (k1191 (v6, wid1183_0, wid1183_1, wid1183_2, wid1183_3, wid1183_4)))
/- freshet/freshetref24.Parse -/
def s11 (N : Nat) (p0 : Bs) : Option (T25 × Int × Int) :=
jn (fun (e1190 : (Int × Int × Int × Int × Int × (Sl T38))) =>
cond (decide ((e1190.1 : Int) < 4))
 (some ((T25.mk 0 0 0 0 none), (IntKind.wrap .i64 (e1190.1 + 1)), 7))
 (some ((T25.mk e1190.2.1 e1190.2.2.1 e1190.2.2.2.1 e1190.2.2.2.2.1 e1190.2.2.2.2.2), 0, 0))) fun k1191 => s11_l0 N k1191 N p0 0 0 0 0 0 none
set_option maxRecDepth 8000 in
set_option maxHeartbeats 4000000 in
theorem w11 (N : Nat) {lo : Nat} {cl : Cl} {H : Hp} (p0 : Bs) (hf : Fit lo cl H) {r : (T25 × Int × Int)} (h : s11 N p0 = some r) : CallsR Tryd.prog (Kj lo) 11 [.str p0] H (cl) fun x H' cl' => x = .tup [.agg [.int .i64 r.1.Groups, .int .i64 r.1.Sources, .int .i64 r.1.Bound, .int .i64 r.1.Late, Sl.enc 38 T38.enc r.1.Ops], .int .i64 r.2.1, .int .i64 r.2.2] ∧ Kp [] H H' ∧ cl = cl' := by
 refine calls_by Tryd.func11 rfl rfl rfl ?_
 unfold s11 at h
 have hk0 : Kp [] H H := Kp.refl H
 refine C_seq ?_
 refine C_reg ?_
 refine oZ [.int .i64 0, .int .i64 0, .int .i64 0, .int .i64 0, Sl.enc 38 T38.enc none] fun id1176 H1174 hi1177 hH1178 => ?_
 have hb1175 : H1174[id1176]? = some (some ⟨25, [.int .i64 0, .int .i64 0, .int .i64 0, .int .i64 0, Sl.enc 38 T38.enc none]⟩) := getL hi1177 hH1178
 have ho1179 := Own.mk2 hf hk0 (Nat.le_of_eq hi1177)
 have hk1180 := kpA hH1178 hk0
 refine oB (.int .i64 0) ?_
 refine oB (.int .i64 0) ?_
 refine O_nil ?_
 refine keep_to [(0, .str p0), (2, .ptr id1176 0)] [] rfl rfl ?_
 refine C_seq ?_
 refine C_reg ?_
 refine oZ [.int .i64 0, .int .i64 0, .int .i64 0, .int .i64 0, Sl.enc 38 T38.enc none] fun id1183 H1181 hi1184 hH1185 => ?_
 have hb1182 : H1181[id1183]? = some (some ⟨25, [.int .i64 0, .int .i64 0, .int .i64 0, .int .i64 0, Sl.enc 38 T38.enc none]⟩) := getL hi1184 hH1185
 have ho1186 := Own.mk2 hf hk1180 (Nat.le_of_eq hi1184)
 have hn1187 := ne_of_lt hb1175 (Nat.le_of_eq hi1184)
 have hb1188 := getA hH1185 hb1175
 have hk1189 := kpA hH1185 hk1180
 refine O_nil ?_
 refine keep_to [(0, .str p0), (2, .ptr id1176 0), (5, .ptr id1183 0)] [] rfl rfl ?_
 refine C_seq ?_
 refine C_reg ?_
 refine oB (.int .i64 0) ?_
 refine O_nil ?_
 refine keep_to [(0, .str p0), (2, .ptr id1176 0), (5, .ptr id1183 0), (6, .int .i64 0)] [] rfl rfl ?_
 refine C_seq ?_
 refine C_block ?_
 obtain ⟨k1191, hk1192, h⟩ := jn_some h
 refine C_loopE [0, 2, 5, 6] (fun n env' H' sl' cl' => ∃ (v0 : Bs), ∃ (v6 : Int), ∃ (wid1183_0 : Int), ∃ (wid1183_1 : Int), ∃ (wid1183_2 : Int), ∃ (wid1183_3 : Int), ∃ (wid1183_4 : (Sl T38)), env' = [(0, .str v0), (2, .ptr id1176 0), (5, .ptr id1183 0), (6, .int .i64 v6)] ∧ sl' = [] ∧ cl = cl' ∧ Kp [] H H' ∧ H'[id1176]? = some (some ⟨25, [.int .i64 0, .int .i64 0, .int .i64 0, .int .i64 0, Sl.enc 38 T38.enc none]⟩) ∧ H'[id1183]? = some (some ⟨25, [.int .i64 wid1183_0, .int .i64 wid1183_1, .int .i64 wid1183_2, .int .i64 wid1183_3, Sl.enc 38 T38.enc wid1183_4]⟩) ∧ s11_l0 N k1191 n v0 v6 wid1183_0 wid1183_1 wid1183_2 wid1183_3 wid1183_4 = some r) 0 [2, 5, 6] (fun env' H' sl' cl' => ∃ (e1190 : (Int × Int × Int × Int × Int × (Sl T38))), env' = [(2, .ptr id1176 0), (5, .ptr id1183 0), (6, .int .i64 e1190.1)] ∧ sl' = [] ∧ cl = cl' ∧ Kp [] H H' ∧ H'[id1176]? = some (some ⟨25, [.int .i64 0, .int .i64 0, .int .i64 0, .int .i64 0, Sl.enc 38 T38.enc none]⟩) ∧ H'[id1183]? = some (some ⟨25, [.int .i64 e1190.2.1, .int .i64 e1190.2.2.1, .int .i64 e1190.2.2.2.1, .int .i64 e1190.2.2.2.2.1, Sl.enc 38 T38.enc e1190.2.2.2.2.2]⟩) ∧ k1191 e1190 = some r) N ⟨p0, 0, 0, 0, 0, 0, none, rfl, rfl, rfl, hk1189, hb1188, hb1182, h⟩ ?_ ?_
 ·rintro n _ H1193 _ _ ⟨v0, v6, wid1183_0, wid1183_1, wid1183_2, wid1183_3, wid1183_4, rfl, rfl, rfl, hk1194, hb1195, hb1196, h⟩
  cases n with
  | zero => rw [s11_l0] at h; cases h
  | succ n =>
  rw [s11_l0] at h
  refine C_seq ?_
  refine C_seq ?_
  refine C_reg ?_
  refine oM (.str v0) ?_
  refine oP (.int .i64 ((List.length v0 : Nat) : Int)) ?_
  refine oP (.bool (decide ((((List.length v0 : Nat) : Int) : Int) > 0))) ?_
  refine O_nil ?_
  refine keep_to [(0, .str v0), (2, .ptr id1176 0), (5, .ptr id1183 0), (6, .int .i64 v6), (12, .bool (decide ((((List.length v0 : Nat) : Int) : Int) > 0)))] [] rfl rfl ?_
  refine C_cond (decide ((((List.length v0 : Nat) : Int) : Int) > 0)) rfl (fun hc1197 => ?_) (fun hc1197 => ?_)
  ·replace h := ocond_t h hc1197
   refine C_skip ?_
   refine C_block ?_
   refine C_seq ?_
   refine C_reg ?_
   refine oM (.str v0) ?_
   obtain ⟨x1201, hx1202, h⟩ := obind_some h
   refine oK [.str v0, .int .u8 10] (w23 N (lo := lo) v0 10 (hf.kp hk1194) hx1202) ?_
   rintro _ H1198 _ ⟨rfl, hk1199, rfl⟩
   have hb1203 := hk1199.get0 hb1195
   have hb1204 := hk1199.get0 hb1196
   have hk1205 := hk1194.trans hk1199
   refine oA (.int .i64 x1201) ?_
   refine O_nil ?_
   refine keep_to [(0, .str v0), (2, .ptr id1176 0), (5, .ptr id1183 0), (6, .int .i64 v6), (7, .int .i64 x1201)] [] rfl rfl ?_
   refine C_seq ?_
   refine C_drawB none (m := true) (q := 1) rfl rfl rfl fun b1206 H1208 hb1207 hH1209 => ?_
   have hz1210 : H1208[b1206 + 0]? = some none := getZ hH1209 hb1207 (by decide)
   have hb1211 := getA hH1209 hb1203
   have hb1212 := getA hH1209 hb1204
   have hk1213 := kpA hH1209 hk1205
   refine oL (.agg [.int .i64 wid1183_0, .int .i64 wid1183_1, .int .i64 wid1183_2, .int .i64 wid1183_3, Sl.enc 38 T38.enc wid1183_4]) hb1212 ?_
   refine oM (.int .i64 v6) ?_
   refine oM (.str v0) ?_
   refine oM (.int .i64 x1201) ?_
   obtain ⟨s1214, hx1215, h⟩ := obind_some h
   refine oQ (.str s1214) (cut_str (l := none) (h := (some x1201)) rfl rfl rfl rfl hx1215) ?_
   obtain ⟨x1219, hx1220, h⟩ := obind_some h
   refine O_call (sl' := []) [.str s1214] rfl rfl rfl rfl (above_of (hf.kp hk1213)) rfl rfl (w25 N (lo := (max lo H1208.length)) s1214 (hf.kp hk1213).up hx1220) ?_
   rintro _ H1216 _ ⟨rfl, hk1217, rfl⟩
   have hz1221 : H1216[b1206 + 0]? = some none := hk1217.get0 hz1210
   have hb1222 := hk1217.get0 hb1211
   have hb1223 := hk1217.get0 hb1212
   have hk1224 := hk1213.trans hk1217
   obtain ⟨x1228, hx1229, h⟩ := obind_some h
   refine O_call (sl' := []) [.agg [.int .i64 wid1183_0, .int .i64 wid1183_1, .int .i64 wid1183_2, .int .i64 wid1183_3, Sl.enc 38 T38.enc wid1183_4], .int .i64 v6, Sl.enc 9 AV.str x1219] rfl rfl rfl rfl (above_of (hf.kp hk1224)) rfl rfl (w24 N (lo := (max lo H1216.length)) (T25.mk wid1183_0 wid1183_1 wid1183_2 wid1183_3 wid1183_4) v6 x1219 (hf.kp hk1224).up hx1229) ?_
   rintro _ H1225 _ ⟨rfl, hk1226, rfl⟩
   have hz1230 : H1225[b1206 + 0]? = some none := hk1226.get0 hz1221
   have hb1231 := hk1226.get0 hb1222
   have hb1232 := hk1226.get0 hb1223
   have hk1233 := hk1224.trans hk1226
   refine oM (.tup [.agg [.int .i64 x1228.1.Groups, .int .i64 x1228.1.Sources, .int .i64 x1228.1.Bound, .int .i64 x1228.1.Late, Sl.enc 38 T38.enc x1228.1.Ops], .bool x1228.2]) ?_
   refine oP (.agg [.int .i64 x1228.1.Groups, .int .i64 x1228.1.Sources, .int .i64 x1228.1.Bound, .int .i64 x1228.1.Late, Sl.enc 38 T38.enc x1228.1.Ops]) ?_
   refine oP (.bool x1228.2) ?_
   refine O_allocD (sl' := []) (q := 0) [.int .i64 0, .int .i64 0, .int .i64 0, .int .i64 0, Sl.enc 38 T38.enc none] rfl rfl rfl rfl hz1230 rfl rfl fun H1234 hH1236 => ?_
   have hb1235 : H1234[(b1206 + 0)]? = some (some ⟨25, [.int .i64 0, .int .i64 0, .int .i64 0, .int .i64 0, Sl.enc 38 T38.enc none]⟩) := by subst hH1236; exact get_set_same hz1230 _
   have ho1237 : Am.Own lo cl H (b1206 + 0) := Own.mk2 hf hk1205 (by omega)
   have hn1238 : id1176 ≠ (b1206 + 0) := ne_of_lt hb1203 (by omega)
   have hn1239 : id1183 ≠ (b1206 + 0) := ne_of_lt hb1204 (by omega)
   have hb1240 := getS hH1236 hn1238 hb1231
   have hb1241 := getS hH1236 hn1239 hb1232
   have hk1242 := kpS hH1236 ho1237.ge hk1233
   refine O_store (sl' := []) (cl' := cl) (.agg [.int .i64 x1228.1.Groups, .int .i64 x1228.1.Sources, .int .i64 x1228.1.Bound, .int .i64 x1228.1.Late, Sl.enc 38 T38.enc x1228.1.Ops]) rfl rfl rfl ho1237.lo hb1235 rfl rfl (fun q h => by cases h) (fun i o h => .inr ⟨h, fun e => ho1237.cl i o h e.1⟩) fun H1243 hH1244 => ?_
   have hb1245 : H1243[(b1206 + 0)]? = some (some ⟨25, [.int .i64 x1228.1.Groups, .int .i64 x1228.1.Sources, .int .i64 x1228.1.Bound, .int .i64 x1228.1.Late, Sl.enc 38 T38.enc x1228.1.Ops]⟩) := getW hH1244 hb1235
   have hb1246 := getS hH1244 hn1238 hb1240
   have hb1247 := getS hH1244 hn1239 hb1241
   have hk1248 := kpS hH1244 ho1237.ge hk1242
   refine oA (.bool x1228.2) ?_
   refine O_nil ?_
   refine keep_to [(0, .str v0), (2, .ptr id1176 0), (5, .ptr id1183 0), (6, .int .i64 v6), (7, .int .i64 x1201), (8, .ptr (b1206 + 0) 0), (9, .bool x1228.2)] [] rfl rfl ?_
   refine C_seq ?_
   refine C_reg ?_
   refine oM (.int .i64 v6) ?_
   refine oP (.int .i64 (IntKind.wrap .i64 (v6 + 1))) ?_
   refine oA (.int .i64 (IntKind.wrap .i64 (v6 + 1))) ?_
   refine O_nil ?_
   refine keep_to [(0, .str v0), (2, .ptr id1176 0), (5, .ptr id1183 0), (6, .int .i64 (IntKind.wrap .i64 (v6 + 1))), (7, .int .i64 x1201), (8, .ptr (b1206 + 0) 0), (9, .bool x1228.2)] [] rfl rfl ?_
   refine C_seq ?_
   obtain ⟨v1249, h1250, h⟩ := obind_some h
   refine C_join [0, 2, 5, 6, 7, 8, 34] (fun env' H' sl' cl' => env' = [(0, .str v0), (2, .ptr id1176 0), (5, .ptr id1183 0), (6, .int .i64 (IntKind.wrap .i64 (v6 + 1))), (7, .int .i64 x1201), (8, .ptr (b1206 + 0) 0), (34, .bool v1249)] ∧ sl' = [] ∧ cl = cl' ∧ Kp [] H H' ∧ H'[id1176]? = some (some ⟨25, [.int .i64 0, .int .i64 0, .int .i64 0, .int .i64 0, Sl.enc 38 T38.enc none]⟩) ∧ H'[id1183]? = some (some ⟨25, [.int .i64 wid1183_0, .int .i64 wid1183_1, .int .i64 wid1183_2, .int .i64 wid1183_3, Sl.enc 38 T38.enc wid1183_4]⟩) ∧ H'[(b1206 + 0)]? = some (some ⟨25, [.int .i64 x1228.1.Groups, .int .i64 x1228.1.Sources, .int .i64 x1228.1.Bound, .int .i64 x1228.1.Late, Sl.enc 38 T38.enc x1228.1.Ops]⟩)) ?_ ?_
   ·refine C_reg ?_
    refine oM (.bool x1228.2) ?_
    refine oP (.bool (!x1228.2)) ?_
    rcases Bool.eq_false_or_eq_true (!x1228.2) with hg1251 | hg1251
    ·replace h1250 := ocond_t h1250 hg1251
     refine O_move (sl' := []) (.bool true) rfl (congrArg (fun b => some (AV.bool b)) hg1251) rfl rfl rfl ?_
     refine O_skip rfl rfl ?_
     refine O_skip rfl rfl ?_
     refine O_skip rfl rfl ?_
     refine O_skip rfl rfl ?_
     refine oP (.bool true) ?_
     refine O_nil ?_
     refine keep_to [(0, .str v0), (2, .ptr id1176 0), (5, .ptr id1183 0), (6, .int .i64 (IntKind.wrap .i64 (v6 + 1))), (7, .int .i64 x1201), (8, .ptr (b1206 + 0) 0), (34, .bool true)] [] rfl rfl ?_
     obtain rfl := Option.some.inj h1250
     exact ⟨rfl, rfl, rfl, hk1248, hb1246, hb1247, hb1245⟩
    ·replace h1250 := ocond_f h1250 hg1251
     refine O_move (sl' := []) (.bool false) rfl (congrArg (fun b => some (AV.bool b)) hg1251) rfl rfl rfl ?_
     refine oM (.int .i64 x1201) ?_
     refine oM (.str v0) ?_
     refine oP (.int .i64 ((List.length v0 : Nat) : Int)) ?_
     refine oP (.bool ((x1201 : Int) == ((List.length v0 : Nat) : Int))) ?_
     refine oP (.bool ((x1201 : Int) == ((List.length v0 : Nat) : Int))) ?_
     refine O_nil ?_
     refine keep_to [(0, .str v0), (2, .ptr id1176 0), (5, .ptr id1183 0), (6, .int .i64 (IntKind.wrap .i64 (v6 + 1))), (7, .int .i64 x1201), (8, .ptr (b1206 + 0) 0), (34, .bool ((x1201 : Int) == ((List.length v0 : Nat) : Int)))] [] rfl rfl ?_
     obtain rfl := Option.some.inj h1250
     exact ⟨rfl, rfl, rfl, hk1248, hb1246, hb1247, hb1245⟩
   ·rintro _ H1252 _ _ ⟨rfl, rfl, rfl, hk1253, hb1254, hb1255, hb1256⟩
    refine C_cond (v1249) rfl (fun hc1257 => ?_) (fun hc1257 => ?_)
    ·replace h := ocond_t h hc1257
     refine C_seq ?_
     refine C_reg ?_
     refine oP (.agg [.int .i64 0, .int .i64 0, .int .i64 0, .int .i64 0, Sl.enc 38 T38.enc none]) ?_
     refine oM (.int .i64 (IntKind.wrap .i64 (v6 + 1))) ?_
     refine O_store (sl' := []) (cl' := cl) (.agg [.int .i64 0, .int .i64 0, .int .i64 0, .int .i64 0, Sl.enc 38 T38.enc none]) rfl rfl rfl ho1179.lo hb1254 rfl rfl (fun q h => by cases h) (fun i o h => .inr ⟨h, fun e => ho1179.cl i o h e.1⟩) fun H1258 hH1259 => ?_
     have hb1260 : H1258[id1176]? = some (some ⟨25, [.int .i64 0, .int .i64 0, .int .i64 0, .int .i64 0, Sl.enc 38 T38.enc none]⟩) := getW hH1259 hb1254
     have hb1261 := getS hH1259 (fun e => hn1187 e.symm) hb1255
     have hb1262 := getS hH1259 (fun e => hn1238 e.symm) hb1256
     have hk1263 := kpS hH1259 ho1179.ge hk1253
     refine oA (.int .i64 (IntKind.wrap .i64 (v6 + 1))) ?_
     refine oB (.int .i64 7) ?_
     refine O_nil ?_
     refine keep_to [(2, .ptr id1176 0), (3, .int .i64 (IntKind.wrap .i64 (v6 + 1))), (4, .int .i64 7)] [] rfl rfl ?_
     refine C_ret ?_
     obtain rfl := Option.some.inj h
     exact ⟨_, (ress_two (resM_cons (resE_cell rfl hb1260 rfl) (resM_cons rfl (resM_cons rfl resM_nil)))), rfl, hk1263, rfl⟩
    ·replace h := ocond_f h hc1257
     refine C_skip ?_
     refine C_seq ?_
     refine C_reg ?_
     refine oL (.agg [.int .i64 x1228.1.Groups, .int .i64 x1228.1.Sources, .int .i64 x1228.1.Bound, .int .i64 x1228.1.Late, Sl.enc 38 T38.enc x1228.1.Ops]) hb1256 ?_
     refine O_store (sl' := []) (cl' := cl) (.agg [.int .i64 x1228.1.Groups, .int .i64 x1228.1.Sources, .int .i64 x1228.1.Bound, .int .i64 x1228.1.Late, Sl.enc 38 T38.enc x1228.1.Ops]) rfl rfl rfl ho1186.lo hb1255 rfl rfl (fun q h => by cases h) (fun i o h => .inr ⟨h, fun e => ho1186.cl i o h e.1⟩) fun H1264 hH1265 => ?_
     have hb1266 : H1264[id1183]? = some (some ⟨25, [.int .i64 x1228.1.Groups, .int .i64 x1228.1.Sources, .int .i64 x1228.1.Bound, .int .i64 x1228.1.Late, Sl.enc 38 T38.enc x1228.1.Ops]⟩) := getW hH1265 hb1255
     have hb1267 := getS hH1265 hn1187 hb1254
     have hb1268 := getS hH1265 (fun e => hn1239 e.symm) hb1256
     have hk1269 := kpS hH1265 ho1186.ge hk1253
     refine O_nil ?_
     refine keep_to [(0, .str v0), (2, .ptr id1176 0), (5, .ptr id1183 0), (6, .int .i64 (IntKind.wrap .i64 (v6 + 1))), (7, .int .i64 x1201)] [] rfl rfl ?_
     refine C_reg ?_
     refine oM (.str v0) ?_
     refine oM (.int .i64 x1201) ?_
     refine oP (.int .i64 (IntKind.wrap .i64 (x1201 + 1))) ?_
     obtain ⟨s1270, hx1271, h⟩ := obind_some h
     refine oQ (.str s1270) (cut_str (l := (some (IntKind.wrap .i64 (x1201 + 1)))) (h := none) rfl rfl rfl rfl hx1271) ?_
     refine oA (.str s1270) ?_
     refine O_nil ?_
     refine keep_to [(0, .str s1270), (2, .ptr id1176 0), (5, .ptr id1183 0), (6, .int .i64 (IntKind.wrap .i64 (v6 + 1)))] [] rfl rfl ?_
     exact ⟨n, Nat.lt_succ_self n, s1270, (IntKind.wrap .i64 (v6 + 1)), x1228.1.Groups, x1228.1.Sources, x1228.1.Bound, x1228.1.Late, x1228.1.Ops, rfl, rfl, rfl, hk1269, hb1267, hb1266, h⟩
  ·replace h := ocond_f h hc1197
   refine C_exit ?_
   exact ⟨_, rfl, rfl, rfl, hk1194, hb1195, hb1196, h⟩
 ·rintro _ H1272 _ _ ⟨e1190, rfl, rfl, rfl, hk1273, hb1274, hb1275, h⟩
  subst hk1192
  refine C_seq ?_
  refine C_seq ?_
  refine C_reg ?_
  refine oM (.int .i64 e1190.1) ?_
  refine oP (.bool (decide ((e1190.1 : Int) < 4))) ?_
  refine O_nil ?_
  refine keep_to [(2, .ptr id1176 0), (5, .ptr id1183 0), (6, .int .i64 e1190.1), (43, .bool (decide ((e1190.1 : Int) < 4)))] [] rfl rfl ?_
  refine C_cond (decide ((e1190.1 : Int) < 4)) rfl (fun hc1276 => ?_) (fun hc1276 => ?_)
  ·replace h := ocond_t h hc1276
   refine C_seq ?_
   refine C_reg ?_
   refine oP (.agg [.int .i64 0, .int .i64 0, .int .i64 0, .int .i64 0, Sl.enc 38 T38.enc none]) ?_
   refine oM (.int .i64 e1190.1) ?_
   refine oP (.int .i64 (IntKind.wrap .i64 (e1190.1 + 1))) ?_
   refine O_store (sl' := []) (cl' := cl) (.agg [.int .i64 0, .int .i64 0, .int .i64 0, .int .i64 0, Sl.enc 38 T38.enc none]) rfl rfl rfl ho1179.lo hb1274 rfl rfl (fun q h => by cases h) (fun i o h => .inr ⟨h, fun e => ho1179.cl i o h e.1⟩) fun H1277 hH1278 => ?_
   have hb1279 : H1277[id1176]? = some (some ⟨25, [.int .i64 0, .int .i64 0, .int .i64 0, .int .i64 0, Sl.enc 38 T38.enc none]⟩) := getW hH1278 hb1274
   have hb1280 := getS hH1278 (fun e => hn1187 e.symm) hb1275
   have hk1281 := kpS hH1278 ho1179.ge hk1273
   refine oA (.int .i64 (IntKind.wrap .i64 (e1190.1 + 1))) ?_
   refine oB (.int .i64 7) ?_
   refine O_nil ?_
   refine keep_to [(2, .ptr id1176 0), (3, .int .i64 (IntKind.wrap .i64 (e1190.1 + 1))), (4, .int .i64 7)] [] rfl rfl ?_
   refine C_ret ?_
   obtain rfl := Option.some.inj h
   exact ⟨_, (ress_two (resM_cons (resE_cell rfl hb1279 rfl) (resM_cons rfl (resM_cons rfl resM_nil)))), rfl, hk1281, rfl⟩
  ·replace h := ocond_f h hc1276
   refine C_skip ?_
   refine C_seq ?_
   refine C_reg ?_
   refine oL (.agg [.int .i64 e1190.2.1, .int .i64 e1190.2.2.1, .int .i64 e1190.2.2.2.1, .int .i64 e1190.2.2.2.2.1, Sl.enc 38 T38.enc e1190.2.2.2.2.2]) hb1275 ?_
   refine O_store (sl' := []) (cl' := cl) (.agg [.int .i64 e1190.2.1, .int .i64 e1190.2.2.1, .int .i64 e1190.2.2.2.1, .int .i64 e1190.2.2.2.2.1, Sl.enc 38 T38.enc e1190.2.2.2.2.2]) rfl rfl rfl ho1179.lo hb1274 rfl rfl (fun q h => by cases h) (fun i o h => .inr ⟨h, fun e => ho1179.cl i o h e.1⟩) fun H1282 hH1283 => ?_
   have hb1284 : H1282[id1176]? = some (some ⟨25, [.int .i64 e1190.2.1, .int .i64 e1190.2.2.1, .int .i64 e1190.2.2.2.1, .int .i64 e1190.2.2.2.2.1, Sl.enc 38 T38.enc e1190.2.2.2.2.2]⟩) := getW hH1283 hb1274
   have hb1285 := getS hH1283 (fun e => hn1187 e.symm) hb1275
   have hk1286 := kpS hH1283 ho1179.ge hk1273
   refine oB (.int .i64 0) ?_
   refine oB (.int .i64 0) ?_
   refine O_nil ?_
   refine keep_to [(2, .ptr id1176 0), (3, .int .i64 0), (4, .int .i64 0)] [] rfl rfl ?_
   refine C_ret ?_
   obtain rfl := Option.some.inj h
   exact ⟨_, (ress_two (resM_cons (resE_cell rfl hb1284 rfl) (resM_cons rfl (resM_cons rfl resM_nil)))), rfl, hk1286, rfl⟩
set_option linter.unusedVariables false in
def s12_l0 (N : Nat) (p0 : T25) (p1 : T25) (k1349 : Unit → Option Bool) : Nat → Int → Option Bool
  | 0, _ => none
  | n + 1, v5 => (
cond (decide ((v5 : Int) < Sl.len p0.Ops))
 (Option.bind (Sl.get p0.Ops v5) fun o1358 =>
Option.bind (Sl.get p1.Ops v5) fun o1360 =>
cond (!((((o1358.Name : Bs) == o1360.Name) && (((o1358.Agg : Int) == o1360.Agg) && ((((o1358.Windows_Kind : Int) == o1360.Windows_Kind) && (((o1358.Windows_Size : Int) == o1360.Windows_Size) && (((o1358.Windows_Slide : Int) == o1360.Windows_Slide) && true))) && true)))))
 (some false)
 (s12_l0 N p0 p1 k1349 n (IntKind.wrap .i64 (v5 + 1))))
 (k1349 ()))
/- freshet/freshetref24.Same -/
def s12 (N : Nat) (p0 : T25) (p1 : T25) : Option Bool :=
cond ((p0.Groups : Int) != p1.Groups)
 (some false)
 (cond ((p0.Sources : Int) != p1.Sources)
 (some false)
 (cond ((p0.Bound : Int) != p1.Bound)
 (some false)
 (cond ((p0.Late : Int) != p1.Late)
 (some false)
 (cond ((Sl.len p0.Ops : Int) != Sl.len p1.Ops)
 (some false)
 (jn (fun (e1348 : Unit) =>
some true) fun k1349 => s12_l0 N p0 p1 k1349 N 0)))))
set_option maxRecDepth 8000 in
set_option maxHeartbeats 4000000 in
theorem w12 (N : Nat) {lo : Nat} {cl : Cl} {H : Hp} (p0 : T25) (p1 : T25) (hf : Fit lo cl H) {r : Bool} (h : s12 N p0 p1 = some r) : CallsR Tryd.prog (Kj lo) 12 [.agg [.int .i64 p0.Groups, .int .i64 p0.Sources, .int .i64 p0.Bound, .int .i64 p0.Late, Sl.enc 38 T38.enc p0.Ops], .agg [.int .i64 p1.Groups, .int .i64 p1.Sources, .int .i64 p1.Bound, .int .i64 p1.Late, Sl.enc 38 T38.enc p1.Ops]] H (cl) fun x H' cl' => x = .bool r ∧ Kp [] H H' ∧ cl = cl' := by
 refine calls_by Tryd.func12 rfl rfl rfl ?_
 unfold s12 at h
 have hk0 : Kp [] H H := Kp.refl H
 refine C_seq ?_
 refine C_reg ?_
 refine oN (.agg [.int .i64 p0.Groups, .int .i64 p0.Sources, .int .i64 p0.Bound, .int .i64 p0.Late, Sl.enc 38 T38.enc p0.Ops]) fun id1329 H1327 hi1330 hH1331 => ?_
 have hb1328 : H1327[id1329]? = some (some ⟨25, [.int .i64 p0.Groups, .int .i64 p0.Sources, .int .i64 p0.Bound, .int .i64 p0.Late, Sl.enc 38 T38.enc p0.Ops]⟩) := getL hi1330 hH1331
 have ho1332 := Own.mk2 hf hk0 (Nat.le_of_eq hi1330)
 have hk1333 := kpA hH1331 hk0
 refine oN (.agg [.int .i64 p1.Groups, .int .i64 p1.Sources, .int .i64 p1.Bound, .int .i64 p1.Late, Sl.enc 38 T38.enc p1.Ops]) fun id1336 H1334 hi1337 hH1338 => ?_
 have hb1335 : H1334[id1336]? = some (some ⟨25, [.int .i64 p1.Groups, .int .i64 p1.Sources, .int .i64 p1.Bound, .int .i64 p1.Late, Sl.enc 38 T38.enc p1.Ops]⟩) := getL hi1337 hH1338
 have ho1339 := Own.mk2 hf hk1333 (Nat.le_of_eq hi1337)
 have hn1340 := ne_of_lt hb1328 (Nat.le_of_eq hi1337)
 have hb1341 := getA hH1338 hb1328
 have hk1342 := kpA hH1338 hk1333
 refine oB (.bool false) ?_
 refine O_nil ?_
 refine keep_to [(2, .ptr id1329 0), (3, .ptr id1336 0)] [] rfl rfl ?_
 refine C_seq ?_
 refine C_seq ?_
 refine C_reg ?_
 refine oP (.ptr id1329 0) ?_
 refine oL (.int .i64 p0.Groups) hb1341 ?_
 refine oP (.ptr id1336 0) ?_
 refine oL (.int .i64 p1.Groups) hb1335 ?_
 refine oP (.bool ((p0.Groups : Int) != p1.Groups)) ?_
 rcases Bool.eq_false_or_eq_true ((p0.Groups : Int) != p1.Groups) with hg1343 | hg1343
 ·replace h := ocond_t h hg1343
  refine O_move (sl' := []) (.bool true) rfl (congrArg (fun b => some (AV.bool b)) hg1343) rfl rfl rfl ?_
  refine O_skip rfl rfl ?_
  refine O_skip rfl rfl ?_
  refine O_skip rfl rfl ?_
  refine O_skip rfl rfl ?_
  refine O_skip rfl rfl ?_
  refine oP (.bool true) ?_
  refine oM (.bool true) ?_
  refine O_skip rfl rfl ?_
  refine O_skip rfl rfl ?_
  refine O_skip rfl rfl ?_
  refine O_skip rfl rfl ?_
  refine O_skip rfl rfl ?_
  refine oP (.bool true) ?_
  refine oM (.bool true) ?_
  refine O_skip rfl rfl ?_
  refine O_skip rfl rfl ?_
  refine O_skip rfl rfl ?_
  refine O_skip rfl rfl ?_
  refine O_skip rfl rfl ?_
  refine oP (.bool true) ?_
  refine oM (.bool true) ?_
  refine O_skip rfl rfl ?_
  refine O_skip rfl rfl ?_
  refine O_skip rfl rfl ?_
  refine O_skip rfl rfl ?_
  refine O_skip rfl rfl ?_
  refine O_skip rfl rfl ?_
  refine O_skip rfl rfl ?_
  refine oP (.bool true) ?_
  refine O_nil ?_
  refine keep_to [(2, .ptr id1329 0), (3, .ptr id1336 0), (40, .bool true)] [] rfl rfl ?_
  refine C_true rfl ?_
  refine C_seq ?_
  refine C_reg ?_
  refine oB (.bool false) ?_
  refine O_nil ?_
  refine keep_to [(4, .bool false)] [] rfl rfl ?_
  refine C_ret ?_
  obtain rfl := Option.some.inj h
  exact ⟨_, rfl, rfl, hk1342, rfl⟩
 ·replace h := ocond_f h hg1343
  refine O_move (sl' := []) (.bool false) rfl (congrArg (fun b => some (AV.bool b)) hg1343) rfl rfl rfl ?_
  refine oP (.ptr id1329 1) ?_
  refine oL (.int .i64 p0.Sources) hb1341 ?_
  refine oP (.ptr id1336 1) ?_
  refine oL (.int .i64 p1.Sources) hb1335 ?_
  refine oP (.bool ((p0.Sources : Int) != p1.Sources)) ?_
  refine oP (.bool ((p0.Sources : Int) != p1.Sources)) ?_
  rcases Bool.eq_false_or_eq_true ((p0.Sources : Int) != p1.Sources) with hg1344 | hg1344
  ·replace h := ocond_t h hg1344
   refine O_move (sl' := []) (.bool true) rfl (congrArg (fun b => some (AV.bool b)) hg1344) rfl rfl rfl ?_
   refine O_skip rfl rfl ?_
   refine O_skip rfl rfl ?_
   refine O_skip rfl rfl ?_
   refine O_skip rfl rfl ?_
   refine O_skip rfl rfl ?_
   refine oP (.bool true) ?_
   refine oM (.bool true) ?_
   refine O_skip rfl rfl ?_
   refine O_skip rfl rfl ?_
   refine O_skip rfl rfl ?_
   refine O_skip rfl rfl ?_
   refine O_skip rfl rfl ?_
   refine oP (.bool true) ?_
   refine oM (.bool true) ?_
   refine O_skip rfl rfl ?_
   refine O_skip rfl rfl ?_
   refine O_skip rfl rfl ?_
   refine O_skip rfl rfl ?_
   refine O_skip rfl rfl ?_
   refine O_skip rfl rfl ?_
   refine O_skip rfl rfl ?_
   refine oP (.bool true) ?_
   refine O_nil ?_
   refine keep_to [(2, .ptr id1329 0), (3, .ptr id1336 0), (40, .bool true)] [] rfl rfl ?_
   refine C_true rfl ?_
   refine C_seq ?_
   refine C_reg ?_
   refine oB (.bool false) ?_
   refine O_nil ?_
   refine keep_to [(4, .bool false)] [] rfl rfl ?_
   refine C_ret ?_
   obtain rfl := Option.some.inj h
   exact ⟨_, rfl, rfl, hk1342, rfl⟩
  ·replace h := ocond_f h hg1344
   refine O_move (sl' := []) (.bool false) rfl (congrArg (fun b => some (AV.bool b)) hg1344) rfl rfl rfl ?_
   refine oP (.ptr id1329 2) ?_
   refine oL (.int .i64 p0.Bound) hb1341 ?_
   refine oP (.ptr id1336 2) ?_
   refine oL (.int .i64 p1.Bound) hb1335 ?_
   refine oP (.bool ((p0.Bound : Int) != p1.Bound)) ?_
   refine oP (.bool ((p0.Bound : Int) != p1.Bound)) ?_
   rcases Bool.eq_false_or_eq_true ((p0.Bound : Int) != p1.Bound) with hg1345 | hg1345
   ·replace h := ocond_t h hg1345
    refine O_move (sl' := []) (.bool true) rfl (congrArg (fun b => some (AV.bool b)) hg1345) rfl rfl rfl ?_
    refine O_skip rfl rfl ?_
    refine O_skip rfl rfl ?_
    refine O_skip rfl rfl ?_
    refine O_skip rfl rfl ?_
    refine O_skip rfl rfl ?_
    refine oP (.bool true) ?_
    refine oM (.bool true) ?_
    refine O_skip rfl rfl ?_
    refine O_skip rfl rfl ?_
    refine O_skip rfl rfl ?_
    refine O_skip rfl rfl ?_
    refine O_skip rfl rfl ?_
    refine O_skip rfl rfl ?_
    refine O_skip rfl rfl ?_
    refine oP (.bool true) ?_
    refine O_nil ?_
    refine keep_to [(2, .ptr id1329 0), (3, .ptr id1336 0), (40, .bool true)] [] rfl rfl ?_
    refine C_true rfl ?_
    refine C_seq ?_
    refine C_reg ?_
    refine oB (.bool false) ?_
    refine O_nil ?_
    refine keep_to [(4, .bool false)] [] rfl rfl ?_
    refine C_ret ?_
    obtain rfl := Option.some.inj h
    exact ⟨_, rfl, rfl, hk1342, rfl⟩
   ·replace h := ocond_f h hg1345
    refine O_move (sl' := []) (.bool false) rfl (congrArg (fun b => some (AV.bool b)) hg1345) rfl rfl rfl ?_
    refine oP (.ptr id1329 3) ?_
    refine oL (.int .i64 p0.Late) hb1341 ?_
    refine oP (.ptr id1336 3) ?_
    refine oL (.int .i64 p1.Late) hb1335 ?_
    refine oP (.bool ((p0.Late : Int) != p1.Late)) ?_
    refine oP (.bool ((p0.Late : Int) != p1.Late)) ?_
    rcases Bool.eq_false_or_eq_true ((p0.Late : Int) != p1.Late) with hg1346 | hg1346
    ·replace h := ocond_t h hg1346
     refine O_move (sl' := []) (.bool true) rfl (congrArg (fun b => some (AV.bool b)) hg1346) rfl rfl rfl ?_
     refine O_skip rfl rfl ?_
     refine O_skip rfl rfl ?_
     refine O_skip rfl rfl ?_
     refine O_skip rfl rfl ?_
     refine O_skip rfl rfl ?_
     refine O_skip rfl rfl ?_
     refine O_skip rfl rfl ?_
     refine oP (.bool true) ?_
     refine O_nil ?_
     refine keep_to [(2, .ptr id1329 0), (3, .ptr id1336 0), (40, .bool true)] [] rfl rfl ?_
     refine C_true rfl ?_
     refine C_seq ?_
     refine C_reg ?_
     refine oB (.bool false) ?_
     refine O_nil ?_
     refine keep_to [(4, .bool false)] [] rfl rfl ?_
     refine C_ret ?_
     obtain rfl := Option.some.inj h
     exact ⟨_, rfl, rfl, hk1342, rfl⟩
    ·replace h := ocond_f h hg1346
     refine O_move (sl' := []) (.bool false) rfl (congrArg (fun b => some (AV.bool b)) hg1346) rfl rfl rfl ?_
     refine oP (.ptr id1329 4) ?_
     refine O_load (cl' := cl) (sl' := []) (Sl.enc 38 T38.enc p0.Ops) rfl rfl hb1341 (by cases p0.Ops <;> rfl) rfl rfl rfl (fun p h => ⟨h, fun e => by cases e⟩) ?_
     refine oQ (.int .i64 (Sl.len p0.Ops)) (len_sl (f := T38.enc) rfl rfl rfl rfl) ?_
     refine oP (.ptr id1336 4) ?_
     refine O_load (cl' := cl) (sl' := []) (Sl.enc 38 T38.enc p1.Ops) rfl rfl hb1335 (by cases p1.Ops <;> rfl) rfl rfl rfl (fun p h => ⟨h, fun e => by cases e⟩) ?_
     refine oQ (.int .i64 (Sl.len p1.Ops)) (len_sl (f := T38.enc) rfl rfl rfl rfl) ?_
     refine oP (.bool ((Sl.len p0.Ops : Int) != Sl.len p1.Ops)) ?_
     refine oP (.bool ((Sl.len p0.Ops : Int) != Sl.len p1.Ops)) ?_
     refine O_nil ?_
     refine keep_to [(2, .ptr id1329 0), (3, .ptr id1336 0), (40, .bool ((Sl.len p0.Ops : Int) != Sl.len p1.Ops))] [] rfl rfl ?_
     refine C_cond ((Sl.len p0.Ops : Int) != Sl.len p1.Ops) rfl (fun hc1347 => ?_) (fun hc1347 => ?_)
     ·replace h := ocond_t h hc1347
      refine C_seq ?_
      refine C_reg ?_
      refine oB (.bool false) ?_
      refine O_nil ?_
      refine keep_to [(4, .bool false)] [] rfl rfl ?_
      refine C_ret ?_
      obtain rfl := Option.some.inj h
      exact ⟨_, rfl, rfl, hk1342, rfl⟩
     ·replace h := ocond_f h hc1347
      refine C_skip ?_
      refine C_seq ?_
      refine C_seq ?_
      refine C_reg ?_
      refine oB (.int .i64 0) ?_
      refine O_nil ?_
      refine keep_to [(2, .ptr id1329 0), (3, .ptr id1336 0), (5, .int .i64 0)] [] rfl rfl ?_
      refine C_block ?_
      obtain ⟨k1349, hk1350, h⟩ := jn_some h
      refine C_loopE [2, 3, 5] (fun n env' H' sl' cl' => ∃ (v5 : Int), env' = [(2, .ptr id1329 0), (3, .ptr id1336 0), (5, .int .i64 v5)] ∧ sl' = [] ∧ cl = cl' ∧ Kp [] H H' ∧ H'[id1329]? = some (some ⟨25, [.int .i64 p0.Groups, .int .i64 p0.Sources, .int .i64 p0.Bound, .int .i64 p0.Late, Sl.enc 38 T38.enc p0.Ops]⟩) ∧ H'[id1336]? = some (some ⟨25, [.int .i64 p1.Groups, .int .i64 p1.Sources, .int .i64 p1.Bound, .int .i64 p1.Late, Sl.enc 38 T38.enc p1.Ops]⟩) ∧ s12_l0 N p0 p1 k1349 n v5 = some r) 0 [] (fun env' H' sl' cl' => ∃ (e1348 : Unit), env' = [] ∧ sl' = [] ∧ cl = cl' ∧ Kp [] H H' ∧ H'[id1329]? = some (some ⟨25, [.int .i64 p0.Groups, .int .i64 p0.Sources, .int .i64 p0.Bound, .int .i64 p0.Late, Sl.enc 38 T38.enc p0.Ops]⟩) ∧ H'[id1336]? = some (some ⟨25, [.int .i64 p1.Groups, .int .i64 p1.Sources, .int .i64 p1.Bound, .int .i64 p1.Late, Sl.enc 38 T38.enc p1.Ops]⟩) ∧ k1349 e1348 = some r) N ⟨0, rfl, rfl, rfl, hk1342, hb1341, hb1335, h⟩ ?_ ?_
      ·rintro n _ H1351 _ _ ⟨v5, rfl, rfl, rfl, hk1352, hb1353, hb1354, h⟩
       cases n with
       | zero => rw [s12_l0] at h; cases h
       | succ n =>
       rw [s12_l0] at h
       refine C_seq ?_
       refine C_seq ?_
       refine C_reg ?_
       refine oM (.int .i64 v5) ?_
       refine oP (.ptr id1329 4) ?_
       refine O_load (cl' := cl) (sl' := []) (Sl.enc 38 T38.enc p0.Ops) rfl rfl hb1353 (by cases p0.Ops <;> rfl) rfl rfl rfl (fun p h => ⟨h, fun e => by cases e⟩) ?_
       refine oQ (.int .i64 (Sl.len p0.Ops)) (len_sl (f := T38.enc) rfl rfl rfl rfl) ?_
       refine oP (.bool (decide ((v5 : Int) < Sl.len p0.Ops))) ?_
       refine O_nil ?_
       refine keep_to [(2, .ptr id1329 0), (3, .ptr id1336 0), (5, .int .i64 v5), (45, .bool (decide ((v5 : Int) < Sl.len p0.Ops)))] [] rfl rfl ?_
       refine C_cond (decide ((v5 : Int) < Sl.len p0.Ops)) rfl (fun hc1355 => ?_) (fun hc1355 => ?_)
       ·replace h := ocond_t h hc1355
        refine C_skip ?_
        refine C_seq ?_
        refine C_block ?_
        refine C_seq ?_
        refine C_draw0 none (m := false) rfl rfl rfl fun b1356 hb1357 => ?_
        refine oP (.ptr id1329 4) ?_
        refine O_load (cl' := cl) (sl' := []) (Sl.enc 38 T38.enc p0.Ops) rfl rfl hb1353 (by cases p0.Ops <;> rfl) rfl rfl rfl (fun p h => ⟨h, fun e => by cases e⟩) ?_
        refine oM (.int .i64 v5) ?_
        obtain ⟨o1358, hx1359, h⟩ := obind_some h
        refine oQ (.ept [.str o1358.Name, .int .i64 o1358.Agg, .int .i64 o1358.Windows_Kind, .int .i64 o1358.Windows_Size, .int .i64 o1358.Windows_Slide] 0) (idx_sl (f := T38.enc) rfl rfl rfl hx1359) ?_
        refine oE (.agg [.str o1358.Name, .int .i64 o1358.Agg, .int .i64 o1358.Windows_Kind, .int .i64 o1358.Windows_Size, .int .i64 o1358.Windows_Slide]) ?_
        refine oP (.ptr id1336 4) ?_
        refine O_load (cl' := cl) (sl' := []) (Sl.enc 38 T38.enc p1.Ops) rfl rfl hb1354 (by cases p1.Ops <;> rfl) rfl rfl rfl (fun p h => ⟨h, fun e => by cases e⟩) ?_
        refine oM (.int .i64 v5) ?_
        obtain ⟨o1360, hx1361, h⟩ := obind_some h
        refine oQ (.ept [.str o1360.Name, .int .i64 o1360.Agg, .int .i64 o1360.Windows_Kind, .int .i64 o1360.Windows_Size, .int .i64 o1360.Windows_Slide] 0) (idx_sl (f := T38.enc) rfl rfl rfl hx1361) ?_
        refine oE (.agg [.str o1360.Name, .int .i64 o1360.Agg, .int .i64 o1360.Windows_Kind, .int .i64 o1360.Windows_Size, .int .i64 o1360.Windows_Slide]) ?_
        refine oQ (.bool (!((((o1358.Name : Bs) == o1360.Name) && (((o1358.Agg : Int) == o1360.Agg) && ((((o1358.Windows_Kind : Int) == o1360.Windows_Kind) && (((o1358.Windows_Size : Int) == o1360.Windows_Size) && (((o1358.Windows_Slide : Int) == o1360.Windows_Slide) && true))) && true)))))) (neq_agg (b := (((o1358.Name : Bs) == o1360.Name) && (((o1358.Agg : Int) == o1360.Agg) && ((((o1358.Windows_Kind : Int) == o1360.Windows_Kind) && (((o1358.Windows_Size : Int) == o1360.Windows_Size) && (((o1358.Windows_Slide : Int) == o1360.Windows_Slide) && true))) && true)))) rfl rfl eg38 (eqIn_struct rfl sh38 (eqf_cons rfl rfl rfl (eqIn_str rfl) (eqf_cons rfl rfl rfl (eqIn_int rfl) (eqf_cons rfl rfl rfl (eqIn_struct rfl sh36 (eqf_cons rfl rfl rfl (eqIn_int rfl) (eqf_cons rfl rfl rfl (eqIn_int rfl) (eqf_cons rfl rfl rfl (eqIn_int rfl) eqf_nil)))) eqf_nil))))) ?_
        refine O_nil ?_
        refine keep_to [(2, .ptr id1329 0), (3, .ptr id1336 0), (5, .int .i64 v5), (58, .bool (!((((o1358.Name : Bs) == o1360.Name) && (((o1358.Agg : Int) == o1360.Agg) && ((((o1358.Windows_Kind : Int) == o1360.Windows_Kind) && (((o1358.Windows_Size : Int) == o1360.Windows_Size) && (((o1358.Windows_Slide : Int) == o1360.Windows_Slide) && true))) && true))))))] [] rfl rfl ?_
        refine C_cond (!((((o1358.Name : Bs) == o1360.Name) && (((o1358.Agg : Int) == o1360.Agg) && ((((o1358.Windows_Kind : Int) == o1360.Windows_Kind) && (((o1358.Windows_Size : Int) == o1360.Windows_Size) && (((o1358.Windows_Slide : Int) == o1360.Windows_Slide) && true))) && true))))) rfl (fun hc1362 => ?_) (fun hc1362 => ?_)
        ·replace h := ocond_t h hc1362
         refine C_seq ?_
         refine C_reg ?_
         refine oB (.bool false) ?_
         refine O_nil ?_
         refine keep_to [(4, .bool false)] [] rfl rfl ?_
         refine C_ret ?_
         obtain rfl := Option.some.inj h
         exact ⟨_, rfl, rfl, hk1352, rfl⟩
        ·replace h := ocond_f h hc1362
         refine C_skip ?_
         refine C_reg ?_
         refine oM (.int .i64 v5) ?_
         refine oP (.int .i64 (IntKind.wrap .i64 (v5 + 1))) ?_
         refine oA (.int .i64 (IntKind.wrap .i64 (v5 + 1))) ?_
         refine O_nil ?_
         refine keep_to [(2, .ptr id1329 0), (3, .ptr id1336 0), (5, .int .i64 (IntKind.wrap .i64 (v5 + 1)))] [] rfl rfl ?_
         exact ⟨n, Nat.lt_succ_self n, (IntKind.wrap .i64 (v5 + 1)), rfl, rfl, rfl, hk1352, hb1353, hb1354, h⟩
       ·replace h := ocond_f h hc1355
        refine C_exit ?_
        exact ⟨_, rfl, rfl, rfl, hk1352, hb1353, hb1354, h⟩
      ·rintro _ H1363 _ _ ⟨e1348, rfl, rfl, rfl, hk1364, hb1365, hb1366, h⟩
       subst hk1350
       refine C_seq ?_
       refine C_reg ?_
       refine oB (.bool true) ?_
       refine O_nil ?_
       refine keep_to [(4, .bool true)] [] rfl rfl ?_
       refine C_ret ?_
       obtain rfl := Option.some.inj h
       exact ⟨_, rfl, rfl, hk1364, rfl⟩
end Go.Proofs.YtecdcnacjlcjoaaDoor.Job

/- Job: walks (GC). Printed by a small program. -/
namespace Go.Proofs.YtecdcnacjlcjoaaDoor.Job
open Am
set_option linter.unusedVariables false
set_option linter.unusedSimpArgs false
end Go.Proofs.YtecdcnacjlcjoaaDoor.Job
