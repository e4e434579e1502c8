/- Which row a number sees. -/
import Derived.Test.YtnajopkaepjncaaA2
namespace Go.Proofs.Ytnajopkaepjncaa
open Am
set_option linter.unusedVariables false

theorem sees_spec (r : Row) (n : Int) {H : Hp} {id : Nat} (hid : H[id]? = some (some ⟨23, [.int .u64 n]⟩)) (cells : Cl) : ∃ E, CallsA Try.prog K0 38 [r.enc, .ptr id 0] H cells (.bool (decide (r.seq ≤ n))) (H ++ E) cells := by
  refine ⟨[some ⟨39, r.enc.cells⟩], ?_⟩
  refine calls_by Try.func38 rfl rfl rfl ?_
  refine And.intro (Nat.succ_pos _) ?_
  refine Exists.intro _ (And.intro rfl (Exists.intro _ (And.intro rfl ?_)))
  refine Exists.intro _ (And.intro (get_last _ _) ?_)
  refine Exists.intro _ (And.intro (get_app hid _) ?_)
  exact And.intro rfl (And.intro rfl rfl)

/-- The first place, from k on, of a row of this kind. -/
def findAt (p : Row → Bool) (l : List Row) : Nat → Nat → Int
  | 0, _ => -1
  | n + 1, k => match l[k]? with
    | some r => match p r with
      | true => (k : Int)
      | false => findAt p l n (k + 1)
    | none => -1

noncomputable abbrev c37 : Code := at_ Try.f37 [true, false, true, false, false]
set_option maxRecDepth 8000 in
theorem index_loop (l : List Row) (sp : List AV) (g : FuncId) (cap : List AV) (p : Row → Bool) (hb : hasBody Try.prog g = true) (hl : l.length < 4611686018427387904) (cells : Cl) (H0 : Hp) (hp : ∀ H r, More H0 H → ∃ E, CallsA Try.prog K0 g ([r.enc] ++ cap) H cells (.bool (p r)) (H ++ E) cells) :
    ∀ (n k : Nat) (H : Hp) , l.length - k = n → More H0 H →
    L Try.prog K0 (K0.vars 37) 19 c37 [(0, .lst 39 (l.map Row.enc) sp), (1, .fn g cap), (7, .int .i64 ((l.map Row.enc).length : Nat)), (8, .int .i64 (k : Int))] H [] cells
      fun e env H' sl cl => More H0 H' ∧ cl = cells ∧ sl = [] ∧ ((e = .exit 0 ∧ findAt p l n k = -1) ∨ (e = .ret ∧ env = [(4, .int .i64 (findAt p l n k))])) := by
  intro n
  induction n with
  | zero =>
    intro k H hn hm
    refine L_round ?_
    refine And.intro (fun h => ?_) (fun h => ?_)
    · exfalso
      have h := dec_true (p := (k : Int) < ((l.map Row.enc).length : Nat)) h
      rw [List.length_map] at h
      omega
    · exact And.intro hm (And.intro rfl (And.intro rfl (.inl ⟨rfl, rfl⟩)))
  | succ n ih =>
    intro k H hn hm
    obtain ⟨r, hr⟩ : ∃ r, l[k]? = some r := ⟨l[k], List.getElem?_eq_getElem (by omega)⟩
    have hstep : findAt p l (n + 1) k = (match p r with | true => (k : Int) | false => findAt p l n (k + 1)) := by
      simp only [findAt, hr]
    refine L_round ?_
    refine And.intro (fun h => ?_) (fun h => ?_)
    · clear h
      refine And.intro (Int.natCast_nonneg _) (Exists.intro _ (And.intro (get_row hr) ?_))
      obtain ⟨E, hE⟩ := hp H r hm
      rw [hstep]
      refine And.intro ?_ ?_
      · exact hb
      refine Exists.intro _ (Exists.intro _ (Exists.intro _ (And.intro hE ?_)))
      cases hpr : p r with
      | true =>
        refine And.intro (fun h => ?_) (fun h => by cases h)
        exact And.intro (hm.trans (More.app H E)) (And.intro rfl (And.intro rfl (.inr ⟨rfl, rfl⟩)))
      | false =>
        refine And.intro (fun h => by cases h) (fun h => ?_)
        refine Exists.intro (.int .i64 ((k + 1 : Nat) : Int)) (And.intro (i64_eq (by omega) (by omega) (by omega)) ?_)
        exact ih (k + 1) (H ++ E) (by omega) (hm.trans (More.app H E))
    · exfalso
      have h := dec_false (p := (k : Int) < ((l.map Row.enc).length : Nat)) h
      rw [List.length_map] at h
      omega

theorem index_spec {x : AV} {l : List Row} (hx : IsRows x l) (g : FuncId) (cap : List AV) (p : Row → Bool) (hb : hasBody Try.prog g = true) (hl : l.length < 4611686018427387904) (H0 : Hp) (cells : Cl) (hp : ∀ H r, More H0 H → ∃ E, CallsA Try.prog K0 g ([r.enc] ++ cap) H cells (.bool (p r)) (H ++ E) cells) :
    ∃ E, CallsA Try.prog K0 37 [x, .fn g cap] H0 cells (.int .i64 (findAt p l l.length 0)) (H0 ++ E) cells := by
  have key : ∃ y H' cells', (y = AV.int .i64 (findAt p l l.length 0) ∧ More H0 H' ∧ cells' = cells) ∧ CallsA Try.prog K0 37 [x, .fn g cap] H0 cells y H' cells' := by
    refine calls_post Try.func37 rfl rfl (R := fun y H' cells' => y = AV.int .i64 (findAt p l l.length 0) ∧ More H0 H' ∧ cells' = cells) rfl ?_
    rcases hx with ⟨rfl, rfl⟩ | ⟨sp, rfl⟩
    · refine L_round ?_
      refine And.intro (fun h => by cases h) (fun h => ?_)
      exact Exists.intro _ (And.intro rfl (And.intro rfl (And.intro (More.refl H0) rfl)))
    · refine L_mono (index_loop l sp g cap p hb hl cells H0 hp l.length 0 H0 rfl (More.refl H0)) ?_
      rintro e env H' sl cl ⟨h1, rfl, rfl, h2⟩
      rcases h2 with ⟨rfl, h3⟩ | ⟨rfl, rfl⟩
      · rw [h3]
        exact Exists.intro _ (And.intro rfl (And.intro rfl (And.intro h1 rfl)))
      · exact Exists.intro _ (And.intro rfl (And.intro rfl (And.intro h1 rfl)))
  obtain ⟨y, H', cells', ⟨rfl, ⟨E, rfl⟩, rfl⟩, h⟩ := key
  exact ⟨E, h⟩

/-- The place of the row that a number sees, or -1. -/
def seenP (l : List Row) (n : Int) : Int := findAt (fun r => decide (r.seq ≤ n)) l l.length 0
theorem seen_spec {x : AV} {l : List Row} (hx : IsRows x l) (hl : l.length < 4611686018427387904) (n : Int) : Gv 28 [x, .int .u64 n] (.int .i64 (seenP l n)) := by
  refine GivesR.one (gives_by Try.func28 rfl rfl rfl fun H cells => ?_)
  refine And.intro (Nat.succ_pos _) ?_
  refine Exists.intro _ (And.intro rfl (Exists.intro _ (And.intro rfl ?_)))
  obtain ⟨E, hE⟩ := index_spec hx 38 [.ptr H.length 0] (fun r => decide (r.seq ≤ n)) rfl hl (H ++ [some ⟨23, [.int .u64 n]⟩]) cells (by
    rintro H' r ⟨E, rfl⟩
    exact sees_spec r n (get_app (get_last _ _) _) cells)
  rcases hx with ⟨rfl, rfl⟩ | ⟨sp, rfl⟩
  · refine And.intro rfl (Exists.intro _ (Exists.intro _ (Exists.intro _ (And.intro hE ?_))))
    exact Exists.intro _ (And.intro rfl (And.intro rfl (And.intro ((More.app H _).trans (More.app _ E)) rfl)))
  · refine And.intro rfl (Exists.intro _ (Exists.intro _ (Exists.intro _ (And.intro hE ?_))))
    exact Exists.intro _ (And.intro rfl (And.intro rfl (And.intro ((More.app H _).trans (More.app _ E)) rfl)))
end Go.Proofs.Ytnajopkaepjncaa
