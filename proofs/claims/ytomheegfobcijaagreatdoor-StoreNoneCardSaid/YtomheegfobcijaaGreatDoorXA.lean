/- A store that is not there, or that nobody opened, answers ErrNil, and tells nothing; none is opened on a disk that is not there. Condition: none but the listed variables of Go's library, which hold what the program's text lays in them. -/
import Derived.Test.YtomheegfobcijaaGreatDoorRows
import Derived.Test.YtomheegfobcijaaGreatDoorTie
import Derived.Test.YtomheegfobcijaaGreatDoorCards
import Derived.Test.YtomheegfobcijaaGreatDoorM8
import Derived.ChangeMaps5
/- A store that is not there, or that nobody opened, answers ErrNil, and tells nothing; none is opened on a disk that is not there. Condition: none but the listed variables of Go's library, which hold what the program's text lays in them. -/
namespace Go.Proofs.YtomheegfobcijaaGreatDoor.storeNone
open Go.ChangeShapes Go.WideShapes Go.ChangeAt Go.RowKit
open Am 
open Go.ChangeMaps (open_string shut_string)
set_option linter.unusedVariables false
set_option maxRecDepth 100000 in
theorem lifted (os : Os) (started : os.Started) (H : Type) (enc : TypeId × Value → H) :
    ReturnsInHanded {} Tryz.checked os 3 .any (fun w args => (Rows.storeNoneSpec.pre enc Tryz.prog Tryz.f3 [] false w args ∧ laidMetH Tryz.prog Rows.storeNoneRow.laid w) ∧ sizedMet enc Tryz.prog Tryz.f3 (OpenSpec.ofChange Rows.storeNoneSpec) false w args)
      (Rows.storeNoneSpec.post enc Tryz.prog Tryz.f3 false true false false) := by
  refine returns_shaped (C := Tryz.checked) (X := fun w _ => laidMetH Tryz.prog Rows.storeNoneRow.laid w) (fun _ _ _ hh h => h.of_heap hh) own started (by kernel_rfl) Tryz.func3
    (ChangeSpec.witness_shaped (enc := enc) (C := Tryz.checked) (os := os) (X := fun w _ => laidMetH Tryz.prog Rows.storeNoneRow.laid w) false (World.doorLaid Tryz.prog 400 os) #[.agg #[.int .i64 0, .int .i64 0, .int .i64 0, .int .i64 0, .int .i64 0, .int .i64 0, .int .i64 0], .slice none 0 0, .string ⟨#[]⟩, .int .u64 0] 8 rfl (World.shaped_of_RefB (by kernel_rfl) (by kernel_rfl)) (by kernel_rfl) (by kernel_rfl) (by kernel_rfl)
      (laidMetH_of_parts3 (fuel := 8) (laidMet_of_run' 8 (by kernel_rfl) (by kernel_rfl)) (by kernel_rfl) (by kernel_rfl))) ?_
  intro W base args ds gs before hS hval0 hW hL
  have hval : ∀ (j : Nat) t v, Tryz.f3.params[j]? = some t → args[j]? = some v → Value.okWide Tryz.prog W .any base t v := hval0
  have hW' := hW
  obtain ⟨p, q, hA0, hV, rfl, hfz, hnd⟩ := hW
  have hA : DataW.TrodAll enc Tryz.prog W 0 (fun _ => true) true Tryz.f3.params.toList args.toList ds p := hA0
  rw [Tryz.params3] at hA hval
  obtain ⟨v0, vs0, d0, ds0, p0, q0, hargs, rfl, rfl, h0, r0⟩ := trodAll_cons hA
  obtain ⟨v1, vs1, d1, ds1, p1, q1, rfl, rfl, rfl, h1, r1⟩ := trodAll_cons r0
  obtain ⟨v2, vs2, d2, ds2, p2, q2, rfl, rfl, rfl, h2, r2⟩ := trodAll_cons r1
  obtain ⟨v3, vs3, d3, ds3, p3, q3, rfl, rfl, rfl, h3, r3⟩ := trodAll_cons r2
  obtain ⟨rfl, rfl, rfl⟩ := trodAll_nil r3
  obtain rfl : args = #[v0, v1, v2, v3] := by cases args; simp_all
  obtain ⟨rfl, rfl⟩ := trodVars_none hV
  obtain ⟨c0, rfl⟩ : ∃ c, v0 = .agg c := by
    have h := hval 0 27 v0 rfl rfl
    unfold Value.okWide at h
    rw [Tryz.underlying27] at h
    obtain ⟨cs, e, _⟩ := h
    exact ⟨cs, e⟩
  have k0 := h0
  have lt0 : ∀ x ∈ p0, x.block < W.heap.size := by obtain ⟨m, hm⟩ := k0; exact DataW.trod_lt m _ _ _ hm
  obtain ⟨x0, e0⟩ := arg_agg tyOpt h0
  rw [opt_enc] at e0
  have k1 := h1
  have lt1 : ∀ x ∈ p1, x.block < W.heap.size := by obtain ⟨m, hm⟩ := k1; exact DataW.trod_lt m _ _ _ hm
  have na1 : ∀ cs, v1 ≠ .agg cs := by
    intro cs e
    have h := hval 1 28 v1 rfl rfl
    subst e
    unfold Value.okWide at h
    rw [Tryz.underlying28] at h
    first | exact h | (simp at h; done) | (obtain ⟨_, e, _⟩ := h; cases e) | (obtain ⟨_, _, _, e, _⟩ := h; cases e) | (rcases h with e | ⟨_, _, _, e, _⟩ <;> cases e)
  obtain ⟨x1, e1⟩ := arg_one tyWr rfl h1 na1
  obtain ⟨s2, rfl, rfl, rfl, hs2⟩ := open_string Tryz.underlying9 (hval 2 9 v2 rfl rfl) h2
  obtain ⟨a3, rfl, rfl, rfl, w3⟩ := open_int Tryz.underlying29 (hval 3 29 v3 rfl rfl) h3
  clear hA0 hval0
  refine (law_runs (W := W) (glob_at hL) pok (short_sound (K := Kj 0) rfl shorts_ok) (short_local (K := Kj 0) rfl shorts_ok) (StoreNone_runs x0.1.1.1 x0.1.2.1.1 x0.1.2.2.1.1 x0.2.1.1.1 x0.2.1.2.1.1 x0.2.1.2.2.1.1 x0.2.2.1.1 x1 s2.data.toList a3) (args_list (vs := [.agg c0, v1, .string s2, .int .u64 a3]) rfl (fun i hi => by
    match i, hi with
    | 0, _ => exact e0
    | 1, _ => exact e1
    | 2, _ => exact (.str s2.data.toList)
    | 3, _ => exact (.int _ _)))).mono fun e W' ⟨he, bel⟩ => ?_
  subst he
  exact ⟨_, rfl, _, _, _, [], _, [], hW', trodAll_mk1 (shut_bool Tryz.underlying4 _), (trodAll_cons_mk (Below.trod laidOut (by kernel_rfl) (of_decide_eq_true (by kernel_rfl)) k0 bel lt0) (trodAll_cons_mk (Below.trod laidOut (by kernel_rfl) (of_decide_eq_true (by kernel_rfl)) k1 bel lt1) (trodAll_cons_mk (shut_string Tryz.underlying9 hs2) (trodAll_cons_mk (shut_int Tryz.underlying29 w3) trodAll_mk0)))), rfl, bel.frame _, fun h => by cases h⟩
end Go.Proofs.YtomheegfobcijaaGreatDoor.storeNone
