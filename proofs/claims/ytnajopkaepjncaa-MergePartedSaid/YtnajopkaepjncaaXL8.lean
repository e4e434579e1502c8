/- MergeParted: rows that are parted into lists, in any way, are made one again as they were, the lists in any order. Condition: at most 100 rows in order; otherwise only that the law says yes. -/
import Derived.Test.YtnajopkaepjncaaRows
import Derived.Test.YtnajopkaepjncaaM8
import Derived.Test.YtnajopkaepjncaaM7
import Derived.WalkKit
import Derived.ProofKit
import Derived.OpenShut
import Derived.ShutString
import Derived.ChangeOld
import Derived.Below
import Derived.SizedLaws
/- MergeParted: rows that are parted into lists, in any way, are made one again as they were, the lists in any order. Condition: at most 100 rows in order; otherwise only that the law says yes. -/
namespace Go.Proofs.Ytnajopkaepjncaa.mergeParted
open Go.ChangeShapes Go.WideShapes Go.ChangeAt Go.RowKit
open Am
set_option linter.unusedVariables false
theorem own : ownKnob Try.prog.godebug = none := by kernel_rfl
theorem laidOut : laidOutB Try.prog = true := by kernel_rfl
set_option maxRecDepth 100000 in
theorem lifted (os : Os) (started : os.Started) (H : Type) (enc : TypeId × Value → H) :
    ReturnsInHanded {} Try.checked os 8 .any (Rows.mergePartedSpec.pre6 enc Try.prog Try.f8 Rows.mergePartedRow.domain false) (Rows.mergePartedSpec.post enc Try.prog Try.f8 false true false false) := by
  refine returnsInHanded_of_change_sized (C := Try.checked) own started (by kernel_rfl) Try.func8
    (ChangeSpec.witness6 (enc := enc) (C := Try.checked) false ⟨#[], #[.slice none 0 0, .slice none 0 0], []⟩ 8 (by kernel_rfl) (by kernel_rfl) (by kernel_rfl) (by kernel_rfl)) ?_
  intro W base args ds gs before hval0 hW hcnd hsz0 _
  have hval : ∀ (j : Nat) t v, Try.f8.params[j]? = some t → args[j]? = some v → Value.okWide Try.prog W .any base t v := hval0
  have hW' := hW
  obtain ⟨p, q, hA0, hV, rfl, hfz, hnd⟩ := hW
  have hA : DataW.TrodAll enc Try.prog W 0 (fun _ => true) true Try.f8.params.toList args.toList ds p := hA0
  rw [Try.params8] at hA hval
  obtain ⟨v0, vs0, d0, ds0, p0, q0, hargs, rfl, rfl, h0, r0⟩ := trodAll_cons hA
  obtain ⟨v1, vs1, d1, ds1, p1, q1, rfl, rfl, rfl, h1, r1⟩ := trodAll_cons r0
  obtain ⟨rfl, rfl, rfl⟩ := trodAll_nil r1
  obtain rfl : args = #[v0, v1] := by cases args; simp_all
  obtain ⟨rfl, rfl⟩ := trodVars_none hV
  obtain ⟨a0, len0, cap0, rfl⟩ := okWide_slice Try.underlying22 (hval 0 22 v0 rfl rfl)
  have k0 := h0
  have lt0 : ∀ x ∈ p0, x.block < W.heap.size := by obtain ⟨m, hm⟩ := k0; exact DataW.trod_lt m _ _ _ hm
  obtain ⟨x0, e0⟩ := arg_one ty22 rfl h0 (fun cs h => by cases h)
  obtain ⟨a1, len1, cap1, rfl⟩ := okWide_slice Try.underlying45 (hval 1 45 v1 rfl rfl)
  have k1 := h1
  have lt1 : ∀ x ∈ p1, x.block < W.heap.size := by obtain ⟨m, hm⟩ := k1; exact DataW.trod_lt m _ _ _ hm
  obtain ⟨x1, e1⟩ := arg_one ty45 rfl h1 (fun cs h => by cases h)
  clear hA0 hval0 hsz0
  obtain ⟨l0, i0, n0, s0⟩ := rows_seq x0
  obtain ⟨l1, i1⟩ := ints_of x1
  obtain ⟨y, H', cells', rfl, hE⟩ := MergeParted_spec i0 i1
  refine (law_calls (W := W) pok K0_sound hE (args_list (vs := [.slice a0 len0 cap0, .slice a1 len1 cap1]) rfl (fun i hi => by
    match i, hi with
    | 0, _ => exact e0
    | 1, _ => exact e1))).mono fun e W' ⟨he, bel⟩ => ?_
  subst he
  exact ⟨_, rfl, _, _, _, [], _, [], hW', trodAll_mk1 (shut_bool Try.underlying4 _), (trodAll_cons_mk (Below.trod laidOut (by kernel_rfl) (of_decide_eq_true (by kernel_rfl)) k0 bel lt0) (trodAll_cons_mk (Below.trod laidOut (by kernel_rfl) (of_decide_eq_true (by kernel_rfl)) k1 bel lt1) trodAll_mk0)), rfl, bel.frame _, fun h => by cases h⟩
theorem over : Rows.mergePartedRow.holds Try.pinned (OpenSpec.ofChange Rows.mergePartedSpec) :=
  OpenClaim.holds_of_wide 8 Try.f8 rfl rfl rfl rfl rfl rfl rfl ⟨rfl, rfl, rfl, rfl, rfl⟩ rfl rfl rfl rfl rfl (by kernel_rfl) Try.func8 (by kernel_rfl)
    (of_decide_eq_true (by kernel_rfl)) (by unfold Func.isWrapper; first | (rw [if_pos (by decide +kernel)]; kernel_rfl) | (rw [if_neg (by decide +kernel)]; exact ⟨rfl, rfl⟩))
    (fun os started H enc _ => lifted os started H enc)
theorem proved : Rows.MergePartedSaid := over
end Go.Proofs.Ytnajopkaepjncaa.mergeParted
namespace Go.Proofs.Ytnajopkaepjncaa
theorem mergeParted_holds : Rows.MergePartedSaid := mergeParted.proved
end Go.Proofs.Ytnajopkaepjncaa
