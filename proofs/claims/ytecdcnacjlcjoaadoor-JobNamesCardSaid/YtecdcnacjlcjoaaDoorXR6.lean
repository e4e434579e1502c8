/- A text with a line whose name was there already is refused at that line. Condition: 1 to 7 operators (otherwise only that the law says yes); the listed variables of Go's library hold what the program's text lays in them. -/
import Derived.Test.YtecdcnacjlcjoaaDoorRows
import Derived.Test.YtecdcnacjlcjoaaDoorTie
import Derived.Test.YtecdcnacjlcjoaaDoorCards
import Derived.Test.YtecdcnacjlcjoaaDoorM9
/- A text with a line whose name was there already is refused at that line. Condition: 1 to 7 operators (otherwise only that the law says yes); the listed variables of Go's library hold what the program's text lays in them. -/
namespace Go.Proofs.YtecdcnacjlcjoaaDoor.jobNames
open Go.ChangeShapes Go.WideShapes Go.ChangeAt Go.RowKit
open Am Job
set_option linter.unusedVariables false
set_option maxRecDepth 100000 in
theorem lifted (os : Os) (started : os.Started) (H : Type) (enc : TypeId × Value → H) :
    ReturnsInHanded {} Tryd.checked os 6 .any (fun w args => (Rows.jobNamesSpec.pre enc Tryd.prog Tryd.f6 [] false w args ∧ laidMetH Tryd.prog laidL w) ∧ sizedMet enc Tryd.prog Tryd.f6 (OpenSpec.ofChange Rows.jobNamesSpec) false w args)
      (Rows.jobNamesSpec.post enc Tryd.prog Tryd.f6 false true false false) := by
  refine returns_shaped (C := Tryd.checked) (X := fun w _ => laidMetH Tryd.prog laidL w) (fun _ _ _ hh h => h.of_heap hh) own started (by kernel_rfl) Tryd.func6
    (ChangeSpec.witness_shaped (enc := enc) (C := Tryd.checked) (os := os) (X := fun w _ => laidMetH Tryd.prog laidL w) false (World.laidAll Tryd.prog os laidL) #[.agg #[.int .i64 0, .int .i64 0, .int .i64 0, .int .i64 0, .slice none 0 0], .int .i64 0, .agg #[.string ⟨#[]⟩, .int .i64 0, .int .i64 0, .int .i64 0, .int .i64 0]] 8 (World.laidAll_os _ _ _)
      (World.shaped_of_ZipB (by kernel_rfl) (by kernel_rfl)) (by kernel_rfl) (by kernel_rfl) (by kernel_rfl)
      (by rw [MakeChecks.laidMetH_plain _ _ _ (by kernel_rfl)]; exact laidMet_laidAll _ (by kernel_rfl) (by kernel_rfl))) ?_
  intro W base args ds gs before hS hval0 hW hL
  have hval : ∀ (j : Nat) t v, Tryd.f6.params[j]? = some t → args[j]? = some v → Value.okWide Tryd.prog W .any base t v := hval0
  have hW' := hW
  obtain ⟨p, q, hA0, hV, rfl, hfz, hnd⟩ := hW
  have hA : DataW.TrodAll enc Tryd.prog W 0 (fun _ => true) true Tryd.f6.params.toList args.toList ds p := hA0
  rw [Tryd.params6] at hA hval
  obtain ⟨v0, vs0, d0, ds0, p0, q0, hargs, rfl, rfl, h0, r0⟩ := trodAll_cons hA
  obtain ⟨v1, vs1, d1, ds1, p1, q1, rfl, rfl, rfl, h1, r1⟩ := trodAll_cons r0
  obtain ⟨v2, vs2, d2, ds2, p2, q2, rfl, rfl, rfl, h2, r2⟩ := trodAll_cons r1
  obtain ⟨rfl, rfl, rfl⟩ := trodAll_nil r2
  obtain rfl : args = #[v0, v1, v2] := by cases args; simp_all
  obtain ⟨rfl, rfl⟩ := trodVars_none hV
  obtain ⟨c0, rfl⟩ : ∃ c, v0 = .agg c := by
    have h := hval 0 25 v0 rfl rfl
    unfold Value.okWide at h
    rw [Tryd.underlying25] at h
    obtain ⟨cs, e, _⟩ := h
    exact ⟨cs, e⟩
  have k0 := h0
  have lt0 : ∀ x ∈ p0, x.block < W.heap.size := by obtain ⟨m, hm⟩ := k0; exact DataW.trod_lt m _ _ _ hm
  obtain ⟨x0, e0⟩ := arg_agg tyJob h0
  rw [job_enc] at e0
  obtain ⟨a1, rfl, rfl, rfl, w1⟩ := open_int Tryd.underlying3 (hval 1 3 v1 rfl rfl) h1
  obtain ⟨c2, rfl⟩ : ∃ c, v2 = .agg c := by
    have h := hval 2 38 v2 rfl rfl
    unfold Value.okWide at h
    rw [Tryd.underlying38] at h
    obtain ⟨cs, e, _⟩ := h
    exact ⟨cs, e⟩
  have k2 := h2
  have lt2 : ∀ x ∈ p2, x.block < W.heap.size := by obtain ⟨m, hm⟩ := k2; exact DataW.trod_lt m _ _ _ hm
  obtain ⟨x2, e2⟩ := arg_agg tyOp h2
  rw [op_enc] at e2
  clear hA0 hval0
  have hE := JobNames_calls (jobOf x0) a1 (opOf x2) (job_in x0) w1 (op_in x2)
  refine (law_calls (W := W) (glob_at hS hL) pok (short_sound (K := Kj 0) rfl shorts_ok) (short_local (K := Kj 0) rfl shorts_ok) hE (args_list (vs := [.agg c0, .int .i64 a1, .agg c2]) rfl (fun i hi => by
    match i, hi with
    | 0, _ => exact e0
    | 1, _ => exact (.int _ _)
    | 2, _ => exact e2))).mono fun e W' ⟨he, bel⟩ => ?_
  subst he
  exact ⟨_, rfl, _, _, _, [], _, [], hW', trodAll_mk1 (shut_bool Tryd.underlying4 _), (trodAll_cons_mk (Below.trod laidOut (by kernel_rfl) (of_decide_eq_true (by kernel_rfl)) k0 bel lt0) (trodAll_cons_mk (shut_int Tryd.underlying3 w1) (trodAll_cons_mk (Below.trod laidOut (by kernel_rfl) (of_decide_eq_true (by kernel_rfl)) k2 bel lt2) trodAll_mk0))), rfl, bel.frame _, fun h => by cases h⟩
theorem over : Rows.jobNamesRow.holds Tryd.pinned (OpenSpec.ofChange Rows.jobNamesSpec) :=
  OpenClaim.holds_of_wide 6 Tryd.f6 rfl rfl rfl rfl rfl rfl rfl ⟨rfl, rfl, rfl, rfl, rfl⟩ rfl rfl rfl rfl rfl (by kernel_rfl) Tryd.func6 (by kernel_rfl)
    (of_decide_eq_true (by kernel_rfl)) (by unfold Func.isWrapper; first | (rw [if_pos (by decide +kernel)]; kernel_rfl) | (rw [if_neg (by decide +kernel)]; exact ⟨rfl, rfl⟩))
    (fun os started H enc _ => lifted os started H enc)
theorem card : Rows.JobNamesCardSaid :=
  Claim7.holds_tied_plain_at .later [] [.data, .data, .data, .data, .sentinel, .sentinel, .pinned] true (true, "5029d14638bd973f59e870854dfffaa20a6d81439b38947da3894957ab1921fa") true over (fun _ h => by cases h) (by kernel_rfl) (fun _ h => by cases h) jobNames_row_tie rfl ⟨rfl, rfl⟩ (by kernel_rfl) rfl
    (fun f fn hf hfn => by
      obtain rfl : f = 6 := Option.some.inj ((show Tryd.prog.funcNamed "freshet/freshetlaw24.JobNames" = some 6 by kernel_rfl).symm.trans hf) |>.symm
      obtain rfl : fn = Tryd.f6 := (Option.some.inj (Tryd.func6.symm.trans hfn)).symm
      exact ⟨by kernel_rfl, fun j t ht => by
        rw [Tryd.params6] at ht
        have hm : t ∈ [25, 3, 38] := by simpa using Array.mem_of_getElem? ht
        have hall : ([25, 3, 38].all fun u => !Tryd.prog.wantsStandIn u) = true := by kernel_rfl
        exact (show Tryd.prog.wantsStandIn t = false by simpa using List.all_eq_true.1 hall t hm)⟩)
    (by kernel_rfl)
end Go.Proofs.YtecdcnacjlcjoaaDoor.jobNames
namespace Go.Proofs.YtecdcnacjlcjoaaDoor
theorem jobNames_holds : Rows.JobNamesCardSaid := jobNames.card
end Go.Proofs.YtecdcnacjlcjoaaDoor
