/- Two lists that have the same elements are said to be the same. -/
import Derived.Test.YtnajopkaepjncaaA9
namespace Go.Proofs.Ytnajopkaepjncaa
open Am
set_option linter.unusedVariables false
set_option maxRecDepth 8000

theorem g41 : Try.prog.eqGuardType Try.prog.depth 41 = false := by kernel_rfl
theorem h41 : Try.prog.stoodInHeld 41 = false := by kernel_rfl
theorem g39 : Try.prog.eqGuardType Try.prog.depth 39 = false := by kernel_rfl
theorem h39 : Try.prog.stoodInHeld 39 = false := by kernel_rfl
def andL : List Bool → Option Bool
  | [] => some true
  | b :: r => match some b with
    | some true => andL r
    | some false => some false
    | none => none
theorem andL_all : ∀ l : List Bool, andL l = some (l.all id)
  | [] => rfl
  | true :: r => by simp only [andL, andL_all r]; rfl
  | false :: r => rfl
theorem eqIn41 (a b c d : List UInt8) : eqIn Try.prog 10000 41 (.agg [.str a, .str b]) (.agg [.str c, .str d]) = some (a == c && b == d) := by
  show (if Try.prog.stoodInHeld 41 then none else eqFields (eqIn Try.prog 9999) Try.prog _ _ _) = _
  rw [h41]
  show andL [a == c, b == d] = _
  rw [andL_all]
  simp
theorem eqIn39 (a b : Row) : eqIn Try.prog 10000 39 a.enc b.enc = some (a.key == b.key && (a.seq == b.seq && (a.kind == b.kind && a.val == b.val))) := by
  show (if Try.prog.stoodInHeld 39 then none else eqFields (eqIn Try.prog 9999) Try.prog _ _ _) = _
  rw [h39]
  show andL [a.key == b.key, a.seq == b.seq, a.kind == b.kind, a.val == b.val] = _
  rw [andL_all]
  simp
theorem guard_agg {t : TypeId} (h : Try.prog.eqGuardType Try.prog.depth t = false) (x y : Operand) (cs ds : List AV) : eqGuardA Try.prog t x y (.agg cs) (.agg ds) = true := by
  show (!(Try.prog.eqGuardType Try.prog.depth t)) = true
  rw [h]; rfl
theorem neq_agg {t : TypeId} (h : Try.prog.eqGuardType Try.prog.depth t = false) (x y : Operand) {cs ds : List AV} {b : Bool} (he : eqIn Try.prog 10000 t (.agg cs) (.agg ds) = some b) : binOpA Try.prog .neq t x y (.agg cs) (.agg ds) = some (.bool !b) := by
  show (if plainA (.agg cs) && eqGuardA Try.prog t x y (.agg cs) (.agg ds) then (eqIn Try.prog 10000 t (.agg cs) (.agg ds)).map (fun r => AV.bool !r) else none) = _
  rw [guard_agg h, he]; rfl
theorem eql_agg {t : TypeId} (h : Try.prog.eqGuardType Try.prog.depth t = false) (x y : Operand) {cs ds : List AV} {b : Bool} (he : eqIn Try.prog 10000 t (.agg cs) (.agg ds) = some b) : binOpA Try.prog .eql t x y (.agg cs) (.agg ds) = some (.bool b) := by
  show (if plainA (.agg cs) && eqGuardA Try.prog t x y (.agg cs) (.agg ds) then (eqIn Try.prog 10000 t (.agg cs) (.agg ds)).map AV.bool else none) = _
  rw [guard_agg h, he]; rfl
theorem neq41 (x y : Operand) (p : Pr) : binOpA Try.prog .neq 41 x y (.agg [.str p.key, .str p.val]) (.agg [.str p.key, .str p.val]) = some (.bool false) := by
  have := neq_agg g41 x y (eqIn41 p.key p.val p.key p.val)
  simpa using this
theorem neq39 (x y : Operand) (p : Row) : binOpA Try.prog .neq 39 x y (.agg [.str p.key, .int .u64 p.seq, .int .i64 p.kind, .str p.val]) (.agg [.str p.key, .int .u64 p.seq, .int .i64 p.kind, .str p.val]) = some (.bool false) := by
  have := neq_agg g39 x y (eqIn39 p p)
  simpa using this
theorem get_pr {xs : List Pr} {k : Nat} {r : Pr} (h : xs[k]? = some r) : (xs.map Pr.enc)[k]? = some r.enc := by rw [List.getElem?_map, h]; rfl
/-- A list of these elements, as it comes in. -/
def IsL (e : TypeId) (x : AV) (xs : List AV) : Prop := (x = .nils ∧ xs = []) ∨ ∃ sp, x = .lst e xs sp


noncomputable abbrev c15 : Code := at_ Try.f15 [true, true, false, true, false, false]
theorem same_loop15 (l : List Pr) (s1 s2 : List AV) (hl : l.length < 4611686018427387904) (cells : Cl) : ∀ (m k : Nat) (H : Hp), l.length - k = m →
    L Try.prog K0 (K0.vars 15) 26 c15 [(0, .lst 41 (l.map Pr.enc) s1), (1, .lst 41 (l.map Pr.enc) s2), (5, .int .i64 (k : Int))] H [] cells
      fun e env H' sl cl => More H H' ∧ cl = cells ∧ e = .exit 0 ∧ sl = [] := by
  intro m
  induction m with
  | zero =>
    intro k H hn
    refine L_round ?_
    refine And.intro (fun h => ?_) (fun h => ?_)
    · exfalso
      have h := dec_true (p := (k : Int) < ((l.map Pr.enc).length : Nat)) h
      rw [List.length_map] at h
      omega
    · exact And.intro (More.refl H) (And.intro rfl (And.intro rfl rfl))
  | succ m ih =>
    intro k H hn
    obtain ⟨r, hr⟩ : ∃ r, l[k]? = some r := ⟨l[k], List.getElem?_eq_getElem (by omega)⟩
    refine L_round ?_
    refine And.intro (fun h => ?_) (fun h => ?_)
    · clear h
      refine Exists.intro _ (And.intro rfl ?_)
      refine And.intro (Int.natCast_nonneg _) (Exists.intro _ (And.intro (get_pr hr) ?_))
      refine And.intro (Int.natCast_nonneg _) (Exists.intro _ (And.intro (get_pr hr) ?_))
      refine Exists.intro (.bool false) (And.intro (neq41 _ _ r) ?_)
      refine And.intro (fun h => by cases h) (fun _ => ?_)
      refine Exists.intro (.int .i64 ((k + 1 : Nat) : Int)) (And.intro (i64_eq (by omega) (by omega) (by omega)) ?_)
      exact ih (k + 1) H (by omega)
    · exfalso
      have h := dec_false (p := (k : Int) < ((l.map Pr.enc).length : Nat)) h
      rw [List.length_map] at h
      omega
theorem same_spec15 {x y : AV} {l : List Pr} (hx : IsL 41 x (l.map Pr.enc)) (hy : IsL 41 y (l.map Pr.enc)) (hl : l.length < 4611686018427387904) : Gv 15 [x, y] (.bool true) := by
  refine GivesR.one (gives_by Try.func15 rfl rfl rfl fun H cells => ?_)
  rcases hx with ⟨rfl, h1⟩ | ⟨s1, rfl⟩
  · rcases hy with ⟨rfl, h2⟩ | ⟨s2, rfl⟩
    · refine And.intro (fun h => by cases h) (fun _ => ?_)
      refine L_round ?_
      refine And.intro (fun h => by cases h) (fun h => ?_)
      exact Exists.intro _ (And.intro rfl (And.intro rfl (And.intro (More.refl H) rfl)))
    · obtain rfl : l = [] := List.map_eq_nil_iff.1 h1
      refine And.intro (fun h => by cases h) (fun _ => ?_)
      refine L_round ?_
      refine And.intro (fun h => by cases h) (fun h => ?_)
      exact Exists.intro _ (And.intro rfl (And.intro rfl (And.intro (More.refl H) rfl)))
  · rcases hy with ⟨rfl, h2⟩ | ⟨s2, rfl⟩
    · obtain rfl : l = [] := List.map_eq_nil_iff.1 h2
      refine And.intro (fun h => by cases h) (fun _ => ?_)
      refine L_round ?_
      refine And.intro (fun h => by cases h) (fun h => ?_)
      exact Exists.intro _ (And.intro rfl (And.intro rfl (And.intro (More.refl H) rfl)))
    · refine And.intro (fun h => ?_) (fun _ => ?_)
      · exfalso
        have h : (((l.map Pr.enc).length : Int) != ((l.map Pr.enc).length : Int)) = true := h
        simp at h
      · refine L_mono (same_loop15 l s1 s2 hl cells l.length 0 H rfl) ?_
        rintro e env H' sl cl ⟨h3, rfl, rfl, rfl⟩
        exact Exists.intro _ (And.intro rfl (And.intro rfl (And.intro h3 rfl)))

noncomputable abbrev c19 : Code := at_ Try.f19 [true, true, false, true, false, false]
theorem same_loop19 (l : List Row) (s1 s2 : List AV) (hl : l.length < 4611686018427387904) (cells : Cl) : ∀ (m k : Nat) (H : Hp), l.length - k = m →
    L Try.prog K0 (K0.vars 19) 26 c19 [(0, .lst 39 (l.map Row.enc) s1), (1, .lst 39 (l.map Row.enc) s2), (5, .int .i64 (k : Int))] H [] cells
      fun e env H' sl cl => More H H' ∧ cl = cells ∧ e = .exit 0 ∧ sl = [] := by
  intro m
  induction m with
  | zero =>
    intro k H hn
    refine L_round ?_
    refine And.intro (fun h => ?_) (fun h => ?_)
    · exfalso
      have h := dec_true (p := (k : Int) < ((l.map Row.enc).length : Nat)) h
      rw [List.length_map] at h
      omega
    · exact And.intro (More.refl H) (And.intro rfl (And.intro rfl rfl))
  | succ m ih =>
    intro k H hn
    obtain ⟨r, hr⟩ : ∃ r, l[k]? = some r := ⟨l[k], List.getElem?_eq_getElem (by omega)⟩
    refine L_round ?_
    refine And.intro (fun h => ?_) (fun h => ?_)
    · clear h
      refine Exists.intro _ (And.intro rfl ?_)
      refine And.intro (Int.natCast_nonneg _) (Exists.intro _ (And.intro (get_row hr) ?_))
      refine And.intro (Int.natCast_nonneg _) (Exists.intro _ (And.intro (get_row hr) ?_))
      refine Exists.intro (.bool false) (And.intro (neq39 _ _ r) ?_)
      refine And.intro (fun h => by cases h) (fun _ => ?_)
      refine Exists.intro (.int .i64 ((k + 1 : Nat) : Int)) (And.intro (i64_eq (by omega) (by omega) (by omega)) ?_)
      exact ih (k + 1) H (by omega)
    · exfalso
      have h := dec_false (p := (k : Int) < ((l.map Row.enc).length : Nat)) h
      rw [List.length_map] at h
      omega
theorem same_spec19 {x y : AV} {l : List Row} (hx : IsL 39 x (l.map Row.enc)) (hy : IsL 39 y (l.map Row.enc)) (hl : l.length < 4611686018427387904) : Gv 19 [x, y] (.bool true) := by
  refine GivesR.one (gives_by Try.func19 rfl rfl rfl fun H cells => ?_)
  rcases hx with ⟨rfl, h1⟩ | ⟨s1, rfl⟩
  · rcases hy with ⟨rfl, h2⟩ | ⟨s2, rfl⟩
    · refine And.intro (fun h => by cases h) (fun _ => ?_)
      refine L_round ?_
      refine And.intro (fun h => by cases h) (fun h => ?_)
      exact Exists.intro _ (And.intro rfl (And.intro rfl (And.intro (More.refl H) rfl)))
    · obtain rfl : l = [] := List.map_eq_nil_iff.1 h1
      refine And.intro (fun h => by cases h) (fun _ => ?_)
      refine L_round ?_
      refine And.intro (fun h => by cases h) (fun h => ?_)
      exact Exists.intro _ (And.intro rfl (And.intro rfl (And.intro (More.refl H) rfl)))
  · rcases hy with ⟨rfl, h2⟩ | ⟨s2, rfl⟩
    · obtain rfl : l = [] := List.map_eq_nil_iff.1 h2
      refine And.intro (fun h => by cases h) (fun _ => ?_)
      refine L_round ?_
      refine And.intro (fun h => by cases h) (fun h => ?_)
      exact Exists.intro _ (And.intro rfl (And.intro rfl (And.intro (More.refl H) rfl)))
    · refine And.intro (fun h => ?_) (fun _ => ?_)
      · exfalso
        have h : (((l.map Row.enc).length : Int) != ((l.map Row.enc).length : Int)) = true := h
        simp at h
      · refine L_mono (same_loop19 l s1 s2 hl cells l.length 0 H rfl) ?_
        rintro e env H' sl cl ⟨h3, rfl, rfl, rfl⟩
        exact Exists.intro _ (And.intro rfl (And.intro rfl (And.intro h3 rfl)))
end Go.Proofs.Ytnajopkaepjncaa
