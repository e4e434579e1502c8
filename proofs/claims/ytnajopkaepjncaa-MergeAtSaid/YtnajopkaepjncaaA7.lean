/- Are rows in order? The document's own. -/
import Derived.Test.YtnajopkaepjncaaA6
namespace Go.Proofs.Ytnajopkaepjncaa
open Am
set_option linter.unusedVariables false

theorem ahead2_spec (r : Row) (key : List UInt8) (seq : Int) : Gv 39 [r.enc, .str key, .int .u64 seq] (.bool (aheadP r key seq)) := by
  intro H cells
  refine ⟨[some ⟨39, r.enc.cells⟩], ?_⟩
  refine calls_by Try.func39 rfl rfl rfl ?_
  refine And.intro (Nat.succ_pos _) ?_
  refine Exists.intro _ (And.intro rfl (Exists.intro _ (And.intro rfl ?_)))
  refine Exists.intro _ (And.intro (get_last _ _) ?_)
  refine And.intro (fun h1 => ?_) (fun h1 => ?_)
  · replace h1 : Op.bytesLess r.key key = true := h1
    refine And.intro (bool_eq ?_) (And.intro rfl rfl)
    unfold aheadP; rw [h1]; rfl
  · replace h1 : Op.bytesLess r.key key = false := h1
    refine Exists.intro _ (And.intro (get_last _ _) ?_)
    refine And.intro (fun h2 => ?_) (fun h2 => ?_)
    · replace h2 : (r.key == key) = true := h2
      refine Exists.intro _ (And.intro (get_last _ _) ?_)
      refine And.intro (bool_eq (?_ : decide (r.seq > seq) = aheadP r key seq)) (And.intro rfl rfl)
      unfold aheadP; rw [h1, h2]; rfl
    · replace h2 : (r.key == key) = false := h2
      refine And.intro (bool_eq (?_ : false = aheadP r key seq)) (And.intro rfl rfl)
      unfold aheadP; rw [h1, h2]; rfl

noncomputable abbrev c29 : Code := at_ Try.f29 [true, false, true, false, false]
theorem order2_loop (l : List Row) (sp : List AV) (hl : l.length < 4611686018427387904) (cells : Cl) : ∀ (n k : Nat) (H : Hp), l.length - (k + 1) = n →
    L Try.prog K0 (K0.vars 29) 27 c29 [(0, .lst 39 (l.map Row.enc) sp), (3, .int .i64 ((k + 1 : Nat) : Int))] H [] cells
      fun e env H' sl cl => More H H' ∧ cl = cells ∧ sl = [] ∧ (orderFrom l n k = false → env = [(2, .bool false)]) ∧ e = (match orderFrom l n k with | true => .exit 0 | false => .ret) := by
  intro n
  induction n with
  | zero =>
    intro k H hn
    refine L_round ?_
    refine And.intro (fun h => ?_) (fun h => ?_)
    · exfalso
      have h := dec_true (p := ((k + 1 : Nat) : Int) < ((l.map Row.enc).length : Nat)) h
      rw [List.length_map] at h
      omega
    · refine And.intro (More.refl H) (And.intro rfl (And.intro rfl (And.intro (fun h => by cases h) rfl)))
  | succ n ih =>
    intro k H hn
    have hk : k + 1 < l.length := by omega
    obtain ⟨a, ha⟩ : ∃ a, l[k]? = some a := ⟨l[k], List.getElem?_eq_getElem (by omega)⟩
    obtain ⟨b, hb⟩ : ∃ b, l[k + 1]? = some b := ⟨l[k + 1], List.getElem?_eq_getElem hk⟩
    refine L_round ?_
    refine And.intro (fun h => ?_) (fun h => ?_)
    · clear h
      refine Exists.intro _ (And.intro rfl ?_)
      refine Exists.intro (.int .i64 (k : Int)) (And.intro (i64_eq (by omega) (by omega) (by omega)) ?_)
      refine And.intro (Int.natCast_nonneg _) (Exists.intro _ (And.intro (get_row ha) ?_))
      refine And.intro (Int.natCast_nonneg _) (Exists.intro _ (And.intro (get_row hb) ?_))
      refine And.intro (Int.natCast_nonneg _) (Exists.intro _ (And.intro (get_row hb) ?_))
      obtain ⟨E, hE⟩ := ahead2_spec a b.key b.seq H cells
      refine And.intro rfl (Exists.intro _ (Exists.intro _ (Exists.intro _ (And.intro hE ?_))))
      have hstep : orderFrom l (n + 1) k = (match aheadP a b.key b.seq with | true => orderFrom l n (k + 1) | false => false) := by
        simp only [orderFrom, ha, hb]
        rfl
      cases hah : aheadP a b.key b.seq with
      | false =>
        rw [hah] at hstep
        rw [hstep]
        refine And.intro (fun h => ?_) (fun h => by cases h)
        exact And.intro (More.app H E) (And.intro rfl (And.intro rfl (And.intro (fun _ => rfl) rfl)))
      | true =>
        rw [hah] at hstep
        rw [hstep]
        refine And.intro (fun h => by cases h) (fun h => ?_)
        refine Exists.intro (.int .i64 ((k + 1 + 1 : Nat) : Int)) (And.intro (i64_eq (by omega) (by omega) (by omega)) ?_)
        refine L_mono (ih (k + 1) (H ++ E) (by omega)) ?_
        rintro e env H' sl cl ⟨h1, h2⟩
        exact ⟨(More.app H E).trans h1, h2⟩
    · exfalso
      have h := dec_false (p := ((k + 1 : Nat) : Int) < ((l.map Row.enc).length : Nat)) h
      rw [List.length_map] at h
      omega

theorem order2_spec {x : AV} {l : List Row} (hx : IsRows x l) (hl : l.length < 4611686018427387904) : Gv 29 [x] (.bool (orderP l)) := by
  refine GivesR.one (gives_by Try.func29 rfl rfl rfl fun H cells => ?_)
  rcases hx with ⟨rfl, rfl⟩ | ⟨sp, rfl⟩
  · refine L_round ?_
    refine And.intro (fun h => by cases h) (fun h => ?_)
    exact Exists.intro _ (And.intro rfl (And.intro rfl (And.intro (More.refl H) rfl)))
  · refine L_mono (order2_loop l sp hl cells _ 0 H rfl) ?_
    rintro e env H' sl cl ⟨h1, rfl, rfl, h2, h3⟩
    have ho : orderFrom l (l.length - (0 + 1)) 0 = orderP l := rfl
    rw [ho] at h2 h3
    cases hp : orderP l with
    | true =>
      rw [hp] at h3
      subst h3
      exact Exists.intro _ (And.intro rfl (And.intro rfl (And.intro h1 rfl)))
    | false =>
      rw [hp] at h3
      subst h3
      rw [h2 hp]
      exact Exists.intro _ (And.intro rfl (And.intro rfl (And.intro h1 rfl)))
end Go.Proofs.Ytnajopkaepjncaa
