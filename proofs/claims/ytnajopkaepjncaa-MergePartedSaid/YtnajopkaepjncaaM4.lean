/- Which slots outlive each region, function by function: read off the program's text by a small program. -/
import Derived.Test.YtnajopkaepjncaaM3
import Derived.Test.YtnajopkaepjncaaM2
/- Which slots outlive each region, function by function: read off the program's text by a small program. -/
namespace Go.Proofs.Ytnajopkaepjncaa
def vtab : List (List (List Nat)) := [[],
  [],
  [[]],
  [[0, 1], [0, 1, 12], [4], [0, 1, 5], [0, 1, 5, 6, 7], [0, 5, 6, 7, 8, 9], [4]],
  [[0, 1, 2], [0, 1, 2, 19], [6], [0, 1, 2, 7], [0, 1, 2, 7, 8, 9], [0, 7, 8, 9, 10, 11], [6]],
  [[0, 1, 2, 3], [0, 1, 2, 3, 27], [8], [0, 1, 2, 3, 9, 10], [0, 1, 2, 3, 9, 37], [8], [0, 1, 2, 3, 9, 11, 12], [0, 9, 11, 12, 13, 14], [8]],
  [[0, 1], [0, 1, 12], [4], [0, 1, 5, 6], [0, 1, 5, 21], [4], [0, 1, 5, 7], [0, 1, 5, 7, 31], [0, 1, 5, 7], [0, 1, 5, 7, 8], [0, 1, 5, 7, 8, 9], [0, 1, 5, 7, 8, 9, 37], [0, 1, 5, 7, 8, 9], [0, 1, 5, 7, 8, 9], [0, 1, 5, 7, 103], [4], [4]],
  [[0], [0, 11], [2], [0, 3], [0, 3, 4], [0, 3, 4, 16], [0, 3, 4], [0, 3, 4], [0, 3, 5, 6], [0, 3, 5, 6, 7, 8], [0, 3, 5, 6, 7, 8, 9], [0, 3, 5, 6, 7, 8, 9, 40], [0, 3, 5, 6, 7, 8, 9], [0, 3, 5, 6, 7, 8, 9, 52], [2], [2]],
  [[0, 1], [0, 1, 19], [4], [0, 1, 6], [0, 1, 6, 27], [4], [0, 1, 7, 8], [0, 1, 7, 8, 9], [0, 1, 7, 8, 9, 34], [0, 1, 7, 8, 9], [0, 1, 7, 8, 9], [0, 1, 7, 8, 10], [0, 1, 7, 8, 10, 43], [0, 1, 7, 8, 10], [0, 1, 7, 8, 10, 11], [0, 1, 7, 8, 10, 11, 49], [0, 1, 7, 8, 10, 11], [0, 1, 7, 8, 10, 11, 56], [0, 1, 7, 8, 10, 11], [0, 1, 7, 8, 10], [0, 7, 8, 12], [0, 7, 8, 12, 73], [0, 7, 8, 12], [0, 7, 8, 12], [0, 8, 13, 14], [0, 13, 14, 15, 16], [4]],
  [[0, 1, 2, 3], [0, 1, 2, 3, 32], [8], [0, 1, 2, 3, 9, 10], [0, 2, 3, 9, 10, 11], [0, 2, 3, 9, 10, 11, 13], [0, 2, 3, 9, 10, 11, 54], [8], [0, 2, 9, 11, 65], [0, 2, 9, 11], [0, 2, 9, 11, 14], [0, 2, 9, 11, 14, 69], [0, 2, 9, 11, 14], [0, 2, 9, 11, 14, 98], [8], [0, 2, 9, 11, 15, 16], [0, 2, 9, 15, 16, 17, 18], [2, 15, 17, 131], [8], [2, 15, 17, 19], [2, 15, 17, 19, 135], [2, 15, 17, 19], [2, 15, 17, 19, 145], [8], [8]],
  [[0, 1], [0, 1, 22], [4], [0, 1, 5, 6], [0, 1, 5, 30], [4], [0, 1, 5, 7, 8], [5, 8, 9, 10], [4]],
  [[], [1], [1, 2, 3], [2, 3, 4, 5], [0]],
  [[0], [0, 3], [0, 3], [2]],
  [[0, 1], [0, 1, 12], [4, 5], [0, 1, 6], [1, 6, 14, 15, 16], [1, 6, 14, 15, 16, 17], [1, 6, 8, 14, 15, 16], [1, 6, 8, 9, 14, 15, 16], [1, 6, 8, 9, 14, 15, 16, 32], [1, 6, 14, 15, 16], [1, 6, 14, 15, 16], [4, 5]],
  [[0, 1], [0, 1, 10], [4, 5], [0, 1, 6], [0, 1, 6, 7], [0, 1, 6, 7, 14], [0, 1, 6, 7], [0, 1, 6, 7, 28], [0, 1, 6, 7], [4, 5]],
  [[0, 1], [0, 1, 10], [4], [0, 1, 5], [0, 1, 5, 14], [0, 1, 5], [0, 1, 5, 25], [4], [4]],
  [[0, 1], [4]],
  [[0, 1, 2], [0, 1, 2, 20], [6, 7], [0, 1, 2, 8], [1, 2, 8, 22, 23, 24], [1, 2, 8, 22, 23, 24, 25], [1, 2, 8, 10, 22, 23, 24], [1, 2, 8, 10, 11, 22, 23, 24], [1, 2, 8, 10, 11, 22, 23, 24], [1, 2, 8, 10, 11, 22, 23, 24, 33, 34, 35], [1, 2, 8, 10, 11, 22, 23, 24, 33, 34, 35, 36], [1, 2, 8, 10, 11, 13, 22, 23, 24, 33, 34, 35], [1, 2, 8, 10, 11, 14, 22, 23, 24, 33, 34, 35], [1, 2, 8, 10, 11, 14, 22, 23, 24, 33, 34, 35, 43], [1, 2, 8, 10, 11, 22, 23, 24, 33, 34, 35], [1, 2, 8, 10, 11, 22, 23, 24, 33, 34, 35], [1, 2, 8, 10, 11, 15, 22, 23, 24], [1, 2, 8, 11, 15, 22, 23, 24, 50, 51, 52], [1, 2, 8, 11, 15, 22, 23, 24, 50, 51, 52, 53], [1, 2, 8, 11, 15, 16, 17, 22, 23, 24, 50, 51, 52], [1, 2, 8, 11, 15, 17, 22, 23, 24, 50, 51, 52, 60], [1, 2, 8, 11, 15, 22, 23, 24, 50, 51, 52], [1, 2, 8, 11, 15, 22, 23, 24, 50, 51, 52], [1, 2, 8, 15, 22, 23, 24, 82], [1, 2, 8, 15, 22, 23, 24], [1, 2, 8, 22, 23, 24], [6, 7]],
  [[0, 1, 2], [0, 1, 2, 18], [6, 7], [0, 1, 2, 8], [0, 1, 2, 8, 9], [0, 1, 2, 8, 9, 22], [0, 1, 2, 8, 9], [0, 1, 2, 8, 9, 10], [0, 1, 2, 8, 9, 10, 11], [0, 1, 2, 8, 9, 10, 11, 31], [0, 1, 2, 8, 9, 10, 11], [0, 1, 2, 8, 9, 10, 11], [0, 1, 2, 8, 9, 44], [0, 1, 2, 8, 9], [8, 53], [6, 7], [8, 12], [8, 12, 13], [8, 12, 13, 58], [8, 12, 13], [8, 12, 13, 14], [8, 12, 13, 14, 15], [8, 12, 13, 14, 15, 78], [8, 12, 13, 14, 15], [8, 12, 13, 14, 15], [8, 12, 13, 90], [8, 12, 13], [6, 7]],
  [[0, 1], [0, 1, 10], [4], [0, 1, 5], [0, 1, 5, 14], [0, 1, 5], [0, 1, 5, 25], [4], [4]],
  [[0, 1], [0, 1, 5], [0, 1, 5, 6], [0, 1, 5, 6, 16], [0, 1, 5, 6], [0, 1, 5, 6, 27], [0, 1, 5, 6], [4]],
  [[0], [0, 6], [2], [0, 3], [0, 3, 10], [0, 3], [0, 3, 18], [2], [2]],
  [[0], [0, 4], [4, 10, 11, 12], [4, 10, 11, 12, 13], [4, 5, 6, 10, 11, 12], [4, 5, 6, 10, 11, 12, 19], [2, 3], [4, 5, 6, 10, 11, 12, 22], [4, 10, 11, 12], [4, 10, 11, 12], [4, 7], [4, 7, 32], [4, 7, 8], [4, 7, 8, 9], [4, 7, 8, 64], [4, 7], [4, 7], [4, 7, 82], [4, 7], [4, 7], [2, 3]],
  [[0], [0, 4], [0, 4, 12], [0, 4], [0, 4, 20], [2, 3], [0, 5], [0, 5, 6], [0, 5, 6, 24], [0, 5, 6], [0, 5, 6, 7], [0, 5, 6, 7, 33], [0, 5, 6, 7], [0, 5, 6, 7, 8], [0, 5, 6, 7, 8, 49], [0, 5, 6, 7], [2, 3]],
  [[0, 1], [0, 1, 5], [0, 1, 5, 6], [0, 1, 5, 6, 12], [0, 1, 5, 6], [0, 1, 5, 6, 7], [0, 1, 5, 6, 7, 8], [0, 1, 5, 6, 7, 8, 18], [0, 1, 5, 6, 7, 8], [0, 1, 5, 6, 7, 8], [0, 1, 5, 6, 48], [0, 1, 5, 6], [4]],
  [[0, 1, 2], [1, 2, 7, 8], [7, 8, 9, 10], [6]],
  [[0], [0, 3], [0, 3, 7], [0, 3], [0, 3, 26], [2], [2]],
  [[0], [0, 3], [0, 3, 4], [0, 3, 4, 7, 8], [0, 3, 4, 7, 8, 9], [0, 3, 4, 5, 7, 8], [0, 3, 4, 5, 7, 8, 29], [0, 3, 5, 7, 8], [0, 3, 4, 7, 8], [0, 3, 4, 7, 8], [2]],
  [[0, 3], [4]],
  [[0], [0, 3], [0, 3, 7], [0, 3], [0, 3, 26], [2], [2]],
  [[0, 1, 2], [6]],
  [[0], []],
  [[0], [0, 3], [0, 3], [0], [2]],
  [[0, 1, 9], []],
  [[0, 1, 2], [0, 1, 2, 7], [6]],
  [[0, 3], [0, 3, 5], [0, 3, 5, 6], [0, 5, 6], [4]],
  [[1, 2, 3], [6]],
  [[0, 1], [0, 1, 7, 8], [0, 1, 7, 8, 9], [0, 1, 5, 7, 8], [0, 1, 5, 7, 8, 16], [4], [0, 1, 7, 8], [4]],
  [[1, 2], [3]],
  [[1, 2, 3], [6]],
  [[0, 1, 4], [0, 1, 4, 17], [0, 4], [0, 1]],
  [[0, 1, 2], [0, 1, 2, 7], [0, 1, 2, 7, 8], [0, 1, 2, 7, 8, 21], [0, 1, 2, 7, 8, 9], [0, 1, 2, 7, 8, 9, 10], [0, 1, 2, 7, 9, 10, 33], [0, 1, 2, 7, 9], [0, 1, 2, 7, 9, 39], [0, 1, 2, 9], [0, 1, 2, 7], [6]],
  [[0, 1, 2], [0, 1, 2, 7], [0, 1, 2, 7, 20], [0, 1, 2, 7], [6]],
  [],
  [],
  [],
  [],
  [],
  [],
  [],
  [],
  [],
  [],
  [],
  [],
  [],
  [],
  [],
  [],
  [],
  [[0], [2]],
  [[0, 1, 2], [0, 1, 2, 7, 8], [0, 1, 2, 7, 8, 23], [6], [0, 1, 2, 7, 8, 34], [6], [6]],
  [[]],
  [[0], [0, 3], [0, 3, 4], [4], [2]],
  [[0, 5], [0, 7, 8], [0, 4], []]]
def Kn : Am.Know := ⟨fun f r => (((vtab[f]?).getD [])[r]?).getD [], fun _ => none, fun f => [17].any (Nat.beq f)⟩
def K0 : Am.Know := ⟨fun f r => (((vtab[f]?).getD [])[r]?).getD [], Am.idle 11 true, fun f => [17].any (Nat.beq f)⟩
end Go.Proofs.Ytnajopkaepjncaa

/- Some answers that the document fixes: 'awake' says yes, whatever memory there is. -/
namespace Go.Proofs.Ytnajopkaepjncaa
open Am
noncomputable def awakeRun : Bool := match callN Try.prog Kn 400 11 [] [] [] with
  | some (.bool true, _, _) => true
  | _ => false
theorem awake_run : awakeRun = true := by kernel_rfl
theorem awake_is : ∃ H' own', callN Try.prog Kn 400 11 [] [] [] = some (.bool true, H', own') := by
  have h := awake_run
  unfold awakeRun at h
  split at h
  · rename_i H' own' e; exact ⟨H', own', e⟩
  · cases h
theorem K0_sound : ShortSound Try.prog K0 := by
  obtain ⟨H', own', h⟩ := awake_is
  exact idle_sound pok (none_sound rfl) h rfl
theorem awake_spec (H : Hp) (cells : Cl) : CallsA Try.prog K0 11 [] H cells (.bool true) H cells := by
  intro own hown
  exact ⟨own, hown, 1, fun m hm => by
    obtain ⟨k, rfl⟩ : ∃ k, m = k + 1 := ⟨m - 1, by omega⟩
    rfl⟩
end Go.Proofs.Ytnajopkaepjncaa

/- Rows, as the abstract machine has them; which of two stands ahead. -/
namespace Go.Proofs.Ytnajopkaepjncaa
open Am
set_option linter.unusedVariables false

structure Row where
  key : List UInt8
  seq : Int
  kind : Int
  val : List UInt8
def Row.enc (r : Row) : AV := .agg [.str r.key, .int .u64 r.seq, .int .i64 r.kind, .str r.val]

abbrev Gv (f : FuncId) (args : List AV) (x : AV) : Prop := Gives Try.prog K0 f args x

def aheadP (r : Row) (key : List UInt8) (seq : Int) : Bool := Op.bytesLess r.key key || (r.key == key && decide (r.seq > seq))

theorem ahead_spec (r : Row) (key : List UInt8) (seq : Int) : Gv 36 [r.enc, .str key, .int .u64 seq] (.bool (aheadP r key seq)) := by
  intro H cells
  refine ⟨[some ⟨39, r.enc.cells⟩], ?_⟩
  refine calls_by Try.func36 rfl rfl rfl ?_
  refine And.intro (Nat.succ_pos _) ?_
  refine Exists.intro _ (And.intro rfl (Exists.intro _ (And.intro rfl ?_)))
  refine Exists.intro _ (And.intro (get_last _ _) ?_)
  refine And.intro (fun h1 => ?_) (fun h1 => ?_)
  · replace h1 : Op.bytesLess r.key key = true := h1
    refine And.intro (bool_eq ?_) (And.intro rfl rfl)
    unfold aheadP; rw [h1]; rfl
  · replace h1 : Op.bytesLess r.key key = false := h1
    refine Exists.intro _ (And.intro (get_last _ _) ?_)
    refine And.intro (fun h2 => ?_) (fun h2 => ?_)
    · replace h2 : (r.key == key) = true := h2
      refine Exists.intro _ (And.intro (get_last _ _) ?_)
      refine And.intro (bool_eq (?_ : decide (r.seq > seq) = aheadP r key seq)) (And.intro rfl rfl)
      unfold aheadP; rw [h1, h2]; rfl
    · replace h2 : (r.key == key) = false := h2
      refine And.intro (bool_eq (?_ : false = aheadP r key seq)) (And.intro rfl rfl)
      unfold aheadP; rw [h1, h2]; rfl
end Go.Proofs.Ytnajopkaepjncaa

/- Are rows in order? -/
namespace Go.Proofs.Ytnajopkaepjncaa
open Am
set_option linter.unusedVariables false

/-- A list of rows, as a value. -/
def IsRows (x : AV) (l : List Row) : Prop := (x = .nils ∧ l = []) ∨ ∃ sp, x = .lst 39 (l.map Row.enc) sp
theorem get_row {l : List Row} {i : Nat} {r : Row} (h : l[i]? = some r) : (l.map Row.enc)[i]? = some r.enc := by rw [List.getElem?_map, h]; rfl

/-- From the row at place i on. -/
def orderFrom (l : List Row) : Nat → Nat → Bool
  | 0, _ => true
  | n + 1, i => match l[i]?, l[i + 1]? with
    | some a, some b => match aheadP a b.key b.seq with
      | true => orderFrom l n (i + 1)
      | false => false
    | _, _ => true
def orderP (l : List Row) : Bool := orderFrom l (l.length - 1) 0

noncomputable abbrev c26 : Code := at_ Try.f26 [true, false, true, false, false]
theorem order_loop (l : List Row) (sp : List AV) (hl : l.length < 4611686018427387904) (cells : Cl) : ∀ (n k : Nat) (H : Hp), l.length - (k + 1) = n →
    L Try.prog K0 (K0.vars 26) 27 c26 [(0, .lst 39 (l.map Row.enc) sp), (3, .int .i64 ((k + 1 : Nat) : Int))] H [] cells
      fun e env H' sl cl => More H H' ∧ cl = cells ∧ sl = [] ∧ (orderFrom l n k = false → env = [(2, .bool false)]) ∧ e = (match orderFrom l n k with | true => .exit 0 | false => .ret) := by
  intro n
  induction n with
  | zero =>
    intro k H hn
    refine L_round ?_
    refine And.intro (fun h => ?_) (fun h => ?_)
    · exfalso
      have h := dec_true (p := ((k + 1 : Nat) : Int) < ((l.map Row.enc).length : Nat)) h
      rw [List.length_map] at h
      omega
    · refine And.intro (More.refl H) (And.intro rfl (And.intro rfl (And.intro (fun h => by cases h) rfl)))
  | succ n ih =>
    intro k H hn
    have hk : k + 1 < l.length := by omega
    obtain ⟨a, ha⟩ : ∃ a, l[k]? = some a := ⟨l[k], List.getElem?_eq_getElem (by omega)⟩
    obtain ⟨b, hb⟩ : ∃ b, l[k + 1]? = some b := ⟨l[k + 1], List.getElem?_eq_getElem hk⟩
    refine L_round ?_
    refine And.intro (fun h => ?_) (fun h => ?_)
    · clear h
      refine Exists.intro _ (And.intro rfl ?_)
      refine Exists.intro (.int .i64 (k : Int)) (And.intro (i64_eq (by omega) (by omega) (by omega)) ?_)
      refine And.intro (Int.natCast_nonneg _) (Exists.intro _ (And.intro (get_row ha) ?_))
      refine And.intro (Int.natCast_nonneg _) (Exists.intro _ (And.intro (get_row hb) ?_))
      refine And.intro (Int.natCast_nonneg _) (Exists.intro _ (And.intro (get_row hb) ?_))
      obtain ⟨E, hE⟩ := ahead_spec a b.key b.seq H cells
      refine And.intro rfl (Exists.intro _ (Exists.intro _ (Exists.intro _ (And.intro hE ?_))))
      have hstep : orderFrom l (n + 1) k = (match aheadP a b.key b.seq with | true => orderFrom l n (k + 1) | false => false) := by
        simp only [orderFrom, ha, hb]
      cases hah : aheadP a b.key b.seq with
      | false =>
        rw [hah] at hstep
        rw [hstep]
        refine And.intro (fun h => ?_) (fun h => by cases h)
        exact And.intro (More.app H E) (And.intro rfl (And.intro rfl (And.intro (fun _ => rfl) rfl)))
      | true =>
        rw [hah] at hstep
        rw [hstep]
        refine And.intro (fun h => by cases h) (fun h => ?_)
        refine Exists.intro (.int .i64 ((k + 1 + 1 : Nat) : Int)) (And.intro (i64_eq (by omega) (by omega) (by omega)) ?_)
        refine L_mono (ih (k + 1) (H ++ E) (by omega)) ?_
        rintro e env H' sl cl ⟨h1, h2⟩
        exact ⟨(More.app H E).trans h1, h2⟩
    · exfalso
      have h := dec_false (p := ((k + 1 : Nat) : Int) < ((l.map Row.enc).length : Nat)) h
      rw [List.length_map] at h
      omega

theorem order_spec {x : AV} {l : List Row} (hx : IsRows x l) (hl : l.length < 4611686018427387904) : Gv 26 [x] (.bool (orderP l)) := by
  refine GivesR.one (gives_by Try.func26 rfl rfl rfl fun H cells => ?_)
  rcases hx with ⟨rfl, rfl⟩ | ⟨sp, rfl⟩
  · refine L_round ?_
    refine And.intro (fun h => by cases h) (fun h => ?_)
    exact Exists.intro _ (And.intro rfl (And.intro rfl (And.intro (More.refl H) rfl)))
  · refine L_mono (order_loop l sp hl cells _ 0 H rfl) ?_
    rintro e env H' sl cl ⟨h1, rfl, rfl, h2, h3⟩
    have ho : orderFrom l (l.length - (0 + 1)) 0 = orderP l := rfl
    rw [ho] at h2 h3
    cases hp : orderP l with
    | true =>
      rw [hp] at h3
      subst h3
      exact Exists.intro _ (And.intro rfl (And.intro rfl (And.intro h1 rfl)))
    | false =>
      rw [hp] at h3
      subst h3
      rw [h2 hp]
      exact Exists.intro _ (And.intro rfl (And.intro rfl (And.intro h1 rfl)))
end Go.Proofs.Ytnajopkaepjncaa

/- Which row a number sees. -/
namespace Go.Proofs.Ytnajopkaepjncaa
open Am
set_option linter.unusedVariables false

theorem sees_spec (r : Row) (n : Int) {H : Hp} {id : Nat} (hid : H[id]? = some (some ⟨23, [.int .u64 n]⟩)) (cells : Cl) : ∃ E, CallsA Try.prog K0 38 [r.enc, .ptr id 0] H cells (.bool (decide (r.seq ≤ n))) (H ++ E) cells := by
  refine ⟨[some ⟨39, r.enc.cells⟩], ?_⟩
  refine calls_by Try.func38 rfl rfl rfl ?_
  refine And.intro (Nat.succ_pos _) ?_
  refine Exists.intro _ (And.intro rfl (Exists.intro _ (And.intro rfl ?_)))
  refine Exists.intro _ (And.intro (get_last _ _) ?_)
  refine Exists.intro _ (And.intro (get_app hid _) ?_)
  exact And.intro rfl (And.intro rfl rfl)

/-- The first place, from k on, of a row of this kind. -/
def findAt (p : Row → Bool) (l : List Row) : Nat → Nat → Int
  | 0, _ => -1
  | n + 1, k => match l[k]? with
    | some r => match p r with
      | true => (k : Int)
      | false => findAt p l n (k + 1)
    | none => -1

noncomputable abbrev c37 : Code := at_ Try.f37 [true, false, true, false, false]
set_option maxRecDepth 8000 in
theorem index_loop (l : List Row) (sp : List AV) (g : FuncId) (cap : List AV) (p : Row → Bool) (hb : hasBody Try.prog g = true) (hl : l.length < 4611686018427387904) (cells : Cl) (H0 : Hp) (hp : ∀ H r, More H0 H → ∃ E, CallsA Try.prog K0 g ([r.enc] ++ cap) H cells (.bool (p r)) (H ++ E) cells) :
    ∀ (n k : Nat) (H : Hp) , l.length - k = n → More H0 H →
    L Try.prog K0 (K0.vars 37) 19 c37 [(0, .lst 39 (l.map Row.enc) sp), (1, .fn g cap), (7, .int .i64 ((l.map Row.enc).length : Nat)), (8, .int .i64 (k : Int))] H [] cells
      fun e env H' sl cl => More H0 H' ∧ cl = cells ∧ sl = [] ∧ ((e = .exit 0 ∧ findAt p l n k = -1) ∨ (e = .ret ∧ env = [(4, .int .i64 (findAt p l n k))])) := by
  intro n
  induction n with
  | zero =>
    intro k H hn hm
    refine L_round ?_
    refine And.intro (fun h => ?_) (fun h => ?_)
    · exfalso
      have h := dec_true (p := (k : Int) < ((l.map Row.enc).length : Nat)) h
      rw [List.length_map] at h
      omega
    · exact And.intro hm (And.intro rfl (And.intro rfl (.inl ⟨rfl, rfl⟩)))
  | succ n ih =>
    intro k H hn hm
    obtain ⟨r, hr⟩ : ∃ r, l[k]? = some r := ⟨l[k], List.getElem?_eq_getElem (by omega)⟩
    have hstep : findAt p l (n + 1) k = (match p r with | true => (k : Int) | false => findAt p l n (k + 1)) := by
      simp only [findAt, hr]
    refine L_round ?_
    refine And.intro (fun h => ?_) (fun h => ?_)
    · clear h
      refine And.intro (Int.natCast_nonneg _) (Exists.intro _ (And.intro (get_row hr) ?_))
      obtain ⟨E, hE⟩ := hp H r hm
      rw [hstep]
      refine And.intro ?_ ?_
      · exact hb
      refine Exists.intro _ (Exists.intro _ (Exists.intro _ (And.intro hE ?_)))
      cases hpr : p r with
      | true =>
        refine And.intro (fun h => ?_) (fun h => by cases h)
        exact And.intro (hm.trans (More.app H E)) (And.intro rfl (And.intro rfl (.inr ⟨rfl, rfl⟩)))
      | false =>
        refine And.intro (fun h => by cases h) (fun h => ?_)
        refine Exists.intro (.int .i64 ((k + 1 : Nat) : Int)) (And.intro (i64_eq (by omega) (by omega) (by omega)) ?_)
        exact ih (k + 1) (H ++ E) (by omega) (hm.trans (More.app H E))
    · exfalso
      have h := dec_false (p := (k : Int) < ((l.map Row.enc).length : Nat)) h
      rw [List.length_map] at h
      omega

theorem index_spec {x : AV} {l : List Row} (hx : IsRows x l) (g : FuncId) (cap : List AV) (p : Row → Bool) (hb : hasBody Try.prog g = true) (hl : l.length < 4611686018427387904) (H0 : Hp) (cells : Cl) (hp : ∀ H r, More H0 H → ∃ E, CallsA Try.prog K0 g ([r.enc] ++ cap) H cells (.bool (p r)) (H ++ E) cells) :
    ∃ E, CallsA Try.prog K0 37 [x, .fn g cap] H0 cells (.int .i64 (findAt p l l.length 0)) (H0 ++ E) cells := by
  have key : ∃ y H' cells', (y = AV.int .i64 (findAt p l l.length 0) ∧ More H0 H' ∧ cells' = cells) ∧ CallsA Try.prog K0 37 [x, .fn g cap] H0 cells y H' cells' := by
    refine calls_post Try.func37 rfl rfl (R := fun y H' cells' => y = AV.int .i64 (findAt p l l.length 0) ∧ More H0 H' ∧ cells' = cells) rfl ?_
    rcases hx with ⟨rfl, rfl⟩ | ⟨sp, rfl⟩
    · refine L_round ?_
      refine And.intro (fun h => by cases h) (fun h => ?_)
      exact Exists.intro _ (And.intro rfl (And.intro rfl (And.intro (More.refl H0) rfl)))
    · refine L_mono (index_loop l sp g cap p hb hl cells H0 hp l.length 0 H0 rfl (More.refl H0)) ?_
      rintro e env H' sl cl ⟨h1, rfl, rfl, h2⟩
      rcases h2 with ⟨rfl, h3⟩ | ⟨rfl, rfl⟩
      · rw [h3]
        exact Exists.intro _ (And.intro rfl (And.intro rfl (And.intro h1 rfl)))
      · exact Exists.intro _ (And.intro rfl (And.intro rfl (And.intro h1 rfl)))
  obtain ⟨y, H', cells', ⟨rfl, ⟨E, rfl⟩, rfl⟩, h⟩ := key
  exact ⟨E, h⟩

/-- The place of the row that a number sees, or -1. -/
def seenP (l : List Row) (n : Int) : Int := findAt (fun r => decide (r.seq ≤ n)) l l.length 0
theorem seen_spec {x : AV} {l : List Row} (hx : IsRows x l) (hl : l.length < 4611686018427387904) (n : Int) : Gv 28 [x, .int .u64 n] (.int .i64 (seenP l n)) := by
  refine GivesR.one (gives_by Try.func28 rfl rfl rfl fun H cells => ?_)
  refine And.intro (Nat.succ_pos _) ?_
  refine Exists.intro _ (And.intro rfl (Exists.intro _ (And.intro rfl ?_)))
  obtain ⟨E, hE⟩ := index_spec hx 38 [.ptr H.length 0] (fun r => decide (r.seq ≤ n)) rfl hl (H ++ [some ⟨23, [.int .u64 n]⟩]) cells (by
    rintro H' r ⟨E, rfl⟩
    exact sees_spec r n (get_app (get_last _ _) _) cells)
  rcases hx with ⟨rfl, rfl⟩ | ⟨sp, rfl⟩
  · refine And.intro rfl (Exists.intro _ (Exists.intro _ (Exists.intro _ (And.intro hE ?_))))
    exact Exists.intro _ (And.intro rfl (And.intro rfl (And.intro ((More.app H _).trans (More.app _ E)) rfl)))
  · refine And.intro rfl (Exists.intro _ (Exists.intro _ (Exists.intro _ (And.intro hE ?_))))
    exact Exists.intro _ (And.intro rfl (And.intro rfl (And.intro ((More.app H _).trans (More.app _ E)) rfl)))
end Go.Proofs.Ytnajopkaepjncaa

/- The rows of each key. -/
namespace Go.Proofs.Ytnajopkaepjncaa
open Am
set_option linter.unusedVariables false

/-- Is the row at place i its key's last one? -/
def endAt (l : List Row) (i : Nat) : Bool := match l[i]?, l[i + 1]? with
  | some a, some b => !(b.key == a.key)
  | _, _ => true
def runsFrom (l : List Row) : Nat → Nat → Nat → List (List Row) → List (List Row)
  | 0, _, _, out => out
  | n + 1, i, fr, out => match endAt l i with
    | true => runsFrom l n (i + 1) (i + 1) (out ++ [(l.take (i + 1)).drop fr])
    | false => runsFrom l n (i + 1) fr out
def runsP (l : List Row) : List (List Row) := runsFrom l l.length 0 0 []
def encRun (r : List Row) : AV := .lst 39 (r.map Row.enc) []
/-- A list that was built: its elements, and whether its end is owned in a slot. -/
def built (e : TypeId) (xs : List AV) : AV := match xs with
  | [] => .nils
  | x :: r => .lst e (x :: r) []
def ownd (s : Nat) (xs : List AV) : List Nat := match xs with
  | [] => []
  | _ :: _ => [s]

theorem cut_rows (l : List Row) (sp : List AV) {fr hi : Nat} (h1 : fr ≤ hi) (h2 : hi ≤ l.length) :
    sliceA Try.prog 22 (.lst 39 (l.map Row.enc) sp) (some (.int .i64 (fr : Int))) (some (.int .i64 (hi : Int))) (some (.int .i64 (hi : Int))) = some (encRun ((l.take hi).drop fr)) := by
  have hu : Try.prog.underlying 22 = some (.slice 39) := Try.underlying22
  unfold sliceA
  rw [hu]
  have b1 : boundA (some (.int .i64 (hi : Int))) ((l.map Row.enc).length + sp.length) ((l.map Row.enc).length + sp.length) = some hi := by
    unfold boundA
    simp only [List.length_map]
    rw [if_pos (by omega)]
    simp
  have b2 : boundA (some (.int .i64 (hi : Int))) (l.map Row.enc).length hi = some hi := by
    unfold boundA
    simp only
    rw [if_pos (by omega)]
    simp
  have b3 : boundA (some (.int .i64 (fr : Int))) 0 hi = some fr := by
    unfold boundA
    simp only
    rw [if_pos (by omega)]
    simp
  simp only [Option.isSome_some, Bool.not_true, Bool.and_false, Bool.false_eq_true, if_false, b1, b2, b3, if_true]
  unfold encRun
  have e1 : (l.map Row.enc ++ sp).take hi = (l.take hi).map Row.enc := by
    rw [List.take_append_of_le_length (by rw [List.length_map]; exact h2), List.map_take]
  have e2 : ((l.map Row.enc ++ sp).take hi).drop hi = [] := by
    rw [List.drop_eq_nil_of_le]; rw [List.length_take]; omega
  rw [e2, e1, List.map_drop]

noncomputable abbrev c27 : Code := at_ Try.f27 [true, true, true, false, true, false, false]
set_option maxRecDepth 8000 in
theorem runs_loop (l : List Row) (sp : List AV) (hl : l.length < 1048576) (cells : Cl) (H : Hp) : ∀ (n i fr : Nat) (out : List (List Row)), l.length - i = n → i ≤ l.length → fr ≤ i → out.length ≤ i →
    L Try.prog K0 (K0.vars 27) 44 c27 [(0, .lst 39 (l.map Row.enc) sp), (3, built 22 (out.map encRun)), (4, .int .i64 (fr : Int)), (7, .int .i64 ((l.map Row.enc).length : Nat)), (8, .int .i64 (i : Int))] H (ownd 3 (out.map encRun)) cells
      fun e env H' sl cl => H' = H ∧ cl = cells ∧ e = .exit 0 ∧ sl = ownd 3 ((runsFrom l n i fr out).map encRun) ∧ ∃ v0 v4 v7 v8 v9, env = [(0, v0), (3, built 22 ((runsFrom l n i fr out).map encRun)), (4, v4), (7, v7), (8, v8), (9, v9)] := by
  intro n
  induction n with
  | zero =>
    intro i fr out hn hi hf ho
    refine L_round ?_
    cases out with
    | nil =>
      refine And.intro (fun h => ?_) (fun h => ?_)
      · exfalso
        have h := dec_true (p := (i : Int) < ((l.map Row.enc).length : Nat)) h
        rw [List.length_map] at h
        omega
      · exact And.intro rfl (And.intro rfl (And.intro rfl (And.intro rfl ⟨_, _, _, _, _, rfl⟩)))
    | cons o os =>
      refine And.intro (fun h => ?_) (fun h => ?_)
      · exfalso
        have h := dec_true (p := (i : Int) < ((l.map Row.enc).length : Nat)) h
        rw [List.length_map] at h
        omega
      · exact And.intro rfl (And.intro rfl (And.intro rfl (And.intro rfl ⟨_, _, _, _, _, rfl⟩)))
  | succ n ih =>
    intro i fr out hn hi hf ho
    have hlt0 : i < l.length := by omega
    obtain ⟨a, ha⟩ : ∃ a, l[i]? = some a := ⟨l[i], List.getElem?_eq_getElem hlt0⟩
    have hstep : runsFrom l (n + 1) i fr out = (match endAt l i with
      | true => runsFrom l n (i + 1) (i + 1) (out ++ [(l.take (i + 1)).drop fr])
      | false => runsFrom l n (i + 1) fr out) := rfl
    refine L_round ?_
    cases out with
    | nil =>
      refine And.intro (fun h => ?_) (fun h => ?_)
      · clear h
        refine Exists.intro _ (And.intro rfl ?_)
        refine Exists.intro (.int .i64 ((i + 1 : Nat) : Int)) (And.intro (i64_eq (by omega) (by omega) (by omega)) ?_)
        refine And.intro (fun h => ?_) (fun h => ?_)
        · replace h : (((i + 1 : Nat) : Int) == ((l.map Row.enc).length : Nat)) = true := h
          have hend : i + 1 = l.length := by
            rw [beq_iff_eq, List.length_map] at h; omega
          have he : endAt l i = true := by
            unfold endAt
            rw [ha, List.getElem?_eq_none (by omega)]
          rw [hstep, he]
          refine And.intro (fun _ => ?_) (fun h => by cases h)
          refine Exists.intro (.int .i64 ((i + 1 : Nat) : Int)) (And.intro (i64_eq (by omega) (by omega) (by omega)) ?_)
          refine Exists.intro (.int .i64 ((i + 1 : Nat) : Int)) (And.intro (i64_eq (by omega) (by omega) (by omega)) ?_)
          refine Exists.intro _ (And.intro (cut_rows l sp (by omega) (by omega)) ?_)
          refine Exists.intro _ (And.intro rfl ?_)
          refine And.intro (Nat.le_of_ble_eq_true rfl) (And.intro (Nat.le_of_ble_eq_true rfl) (And.intro (Nat.le_of_ble_eq_true rfl) (And.intro rfl ?_)))
          refine Exists.intro (.int .i64 ((i + 1 : Nat) : Int)) (And.intro (i64_eq (by omega) (by omega) (by omega)) ?_)
          refine Exists.intro (.int .i64 ((i + 1 : Nat) : Int)) (And.intro (i64_eq (by omega) (by omega) (by omega)) ?_)
          exact ih (i + 1) (i + 1) ([] ++ [(l.take (i + 1)).drop fr]) (by omega) (by omega) (Nat.le_refl _) (by simp only [List.length_append, List.length_cons, List.length_nil] at ho ⊢; omega)
        · replace h : (((i + 1 : Nat) : Int) == ((l.map Row.enc).length : Nat)) = false := h
          have hlt : i + 1 < l.length := by
            rw [beq_eq_false_iff_ne, List.length_map] at h; omega
          obtain ⟨b, hb⟩ : ∃ b, l[i + 1]? = some b := ⟨l[i + 1], List.getElem?_eq_getElem hlt⟩
          have he : endAt l i = !(b.key == a.key) := by
            unfold endAt
            rw [ha, hb]
          rw [hstep, he]
          refine Exists.intro (.int .i64 ((i + 1 : Nat) : Int)) (And.intro (i64_eq (by omega) (by omega) (by omega)) ?_)
          refine And.intro (Int.natCast_nonneg _) (Exists.intro _ (And.intro (get_row hb) ?_))
          refine And.intro (Int.natCast_nonneg _) (Exists.intro _ (And.intro (get_row ha) ?_))
          refine And.intro (fun h2 => ?_) (fun h2 => ?_)
          · replace h2 : (!(b.key == a.key)) = true := h2
            rw [h2]
            refine Exists.intro (.int .i64 ((i + 1 : Nat) : Int)) (And.intro (i64_eq (by omega) (by omega) (by omega)) ?_)
            refine Exists.intro (.int .i64 ((i + 1 : Nat) : Int)) (And.intro (i64_eq (by omega) (by omega) (by omega)) ?_)
            refine Exists.intro _ (And.intro (cut_rows l sp (by omega) (by omega)) ?_)
            refine Exists.intro _ (And.intro rfl ?_)
            refine And.intro (Nat.le_of_ble_eq_true rfl) (And.intro (Nat.le_of_ble_eq_true rfl) (And.intro (Nat.le_of_ble_eq_true rfl) (And.intro rfl ?_)))
            refine Exists.intro (.int .i64 ((i + 1 : Nat) : Int)) (And.intro (i64_eq (by omega) (by omega) (by omega)) ?_)
            refine Exists.intro (.int .i64 ((i + 1 : Nat) : Int)) (And.intro (i64_eq (by omega) (by omega) (by omega)) ?_)
            exact ih (i + 1) (i + 1) ([] ++ [(l.take (i + 1)).drop fr]) (by omega) (by omega) (Nat.le_refl _) (by simp only [List.length_append, List.length_cons, List.length_nil] at ho ⊢; omega)
          · replace h2 : (!(b.key == a.key)) = false := h2
            rw [h2]
            refine Exists.intro (.int .i64 ((i + 1 : Nat) : Int)) (And.intro (i64_eq (by omega) (by omega) (by omega)) ?_)
            exact ih (i + 1) fr [] (by omega) (by omega) (by omega) (Nat.zero_le _)
      · exfalso
        have h := dec_false (p := (i : Int) < ((l.map Row.enc).length : Nat)) h
        rw [List.length_map] at h
        omega
    | cons o os =>
      refine And.intro (fun h => ?_) (fun h => ?_)
      · clear h
        refine Exists.intro _ (And.intro rfl ?_)
        refine Exists.intro (.int .i64 ((i + 1 : Nat) : Int)) (And.intro (i64_eq (by omega) (by omega) (by omega)) ?_)
        refine And.intro (fun h => ?_) (fun h => ?_)
        · replace h : (((i + 1 : Nat) : Int) == ((l.map Row.enc).length : Nat)) = true := h
          have hend : i + 1 = l.length := by
            rw [beq_iff_eq, List.length_map] at h; omega
          have he : endAt l i = true := by
            unfold endAt
            rw [ha, List.getElem?_eq_none (by omega)]
          rw [hstep, he]
          refine And.intro (fun _ => ?_) (fun h => by cases h)
          refine Exists.intro (.int .i64 ((i + 1 : Nat) : Int)) (And.intro (i64_eq (by omega) (by omega) (by omega)) ?_)
          refine Exists.intro (.int .i64 ((i + 1 : Nat) : Int)) (And.intro (i64_eq (by omega) (by omega) (by omega)) ?_)
          refine Exists.intro _ (And.intro (cut_rows l sp (by omega) (by omega)) ?_)
          refine Exists.intro _ (And.intro rfl ?_)
          refine And.intro rfl (And.intro rfl (And.intro (?_ : (((o :: os).map encRun).length + 1) * 24 ≤ 140737488355328) (And.intro (?_ : ((o :: os).map encRun).length + 1 ≤ 140737488355328) (And.intro (Nat.le_of_ble_eq_true rfl) (And.intro rfl (Exists.intro (((o :: os) ++ [(l.take (i + 1)).drop fr]).map encRun) (And.intro (by rw [List.map_append]; rfl) ?_)))))))
          · rw [List.length_map]; omega
          · rw [List.length_map]; omega
          refine Exists.intro (.int .i64 ((i + 1 : Nat) : Int)) (And.intro (i64_eq (by omega) (by omega) (by omega)) ?_)
          refine Exists.intro (.int .i64 ((i + 1 : Nat) : Int)) (And.intro (i64_eq (by omega) (by omega) (by omega)) ?_)
          exact ih (i + 1) (i + 1) ((o :: os) ++ [(l.take (i + 1)).drop fr]) (by omega) (by omega) (Nat.le_refl _) (by simp only [List.length_append, List.length_cons, List.length_nil] at ho ⊢; omega)
        · replace h : (((i + 1 : Nat) : Int) == ((l.map Row.enc).length : Nat)) = false := h
          have hlt : i + 1 < l.length := by
            rw [beq_eq_false_iff_ne, List.length_map] at h; omega
          obtain ⟨b, hb⟩ : ∃ b, l[i + 1]? = some b := ⟨l[i + 1], List.getElem?_eq_getElem hlt⟩
          have he : endAt l i = !(b.key == a.key) := by
            unfold endAt
            rw [ha, hb]
          rw [hstep, he]
          refine Exists.intro (.int .i64 ((i + 1 : Nat) : Int)) (And.intro (i64_eq (by omega) (by omega) (by omega)) ?_)
          refine And.intro (Int.natCast_nonneg _) (Exists.intro _ (And.intro (get_row hb) ?_))
          refine And.intro (Int.natCast_nonneg _) (Exists.intro _ (And.intro (get_row ha) ?_))
          refine And.intro (fun h2 => ?_) (fun h2 => ?_)
          · replace h2 : (!(b.key == a.key)) = true := h2
            rw [h2]
            refine Exists.intro (.int .i64 ((i + 1 : Nat) : Int)) (And.intro (i64_eq (by omega) (by omega) (by omega)) ?_)
            refine Exists.intro (.int .i64 ((i + 1 : Nat) : Int)) (And.intro (i64_eq (by omega) (by omega) (by omega)) ?_)
            refine Exists.intro _ (And.intro (cut_rows l sp (by omega) (by omega)) ?_)
            refine Exists.intro _ (And.intro rfl ?_)
            refine And.intro rfl (And.intro rfl (And.intro (?_ : (((o :: os).map encRun).length + 1) * 24 ≤ 140737488355328) (And.intro (?_ : ((o :: os).map encRun).length + 1 ≤ 140737488355328) (And.intro (Nat.le_of_ble_eq_true rfl) (And.intro rfl (Exists.intro (((o :: os) ++ [(l.take (i + 1)).drop fr]).map encRun) (And.intro (by rw [List.map_append]; rfl) ?_)))))))
            · rw [List.length_map]; omega
            · rw [List.length_map]; omega
            refine Exists.intro (.int .i64 ((i + 1 : Nat) : Int)) (And.intro (i64_eq (by omega) (by omega) (by omega)) ?_)
            refine Exists.intro (.int .i64 ((i + 1 : Nat) : Int)) (And.intro (i64_eq (by omega) (by omega) (by omega)) ?_)
            exact ih (i + 1) (i + 1) ((o :: os) ++ [(l.take (i + 1)).drop fr]) (by omega) (by omega) (Nat.le_refl _) (by simp only [List.length_append, List.length_cons, List.length_nil] at ho ⊢; omega)
          · replace h2 : (!(b.key == a.key)) = false := h2
            rw [h2]
            refine Exists.intro (.int .i64 ((i + 1 : Nat) : Int)) (And.intro (i64_eq (by omega) (by omega) (by omega)) ?_)
            exact ih (i + 1) fr (o :: os) (by omega) (by omega) (by omega) (by omega)
      · exfalso
        have h := dec_false (p := (i : Int) < ((l.map Row.enc).length : Nat)) h
        rw [List.length_map] at h
        omega

set_option maxRecDepth 8000 in
theorem runs_spec {x : AV} {l : List Row} (hx : IsRows x l) (hl : l.length < 1048576) : Gv 27 [x] (built 22 ((runsP l).map encRun)) := by
  refine GivesR.one (gives_by Try.func27 rfl rfl rfl fun H cells => ?_)
  rcases hx with ⟨rfl, rfl⟩ | ⟨sp, rfl⟩
  · refine L_round ?_
    refine And.intro (fun h => by cases h) (fun h => ?_)
    exact Exists.intro _ (And.intro rfl (And.intro rfl (And.intro (More.refl H) rfl)))
  · refine L_mono (runs_loop l sp hl cells H l.length 0 0 [] rfl (Nat.zero_le _) (Nat.le_refl _) (Nat.le_refl _)) ?_
    rintro e env H' sl cl ⟨rfl, rfl, rfl, rfl, v0, v4, v7, v8, v9, rfl⟩
    have hr : runsFrom l l.length 0 0 [] = runsP l := rfl
    rw [hr]
    cases hp : (runsP l) with
    | nil => exact Exists.intro _ (And.intro rfl (And.intro rfl (And.intro (More.refl _) rfl)))
    | cons o os => exact Exists.intro _ (And.intro rfl (And.intro rfl (And.intro (More.refl _) rfl)))
end Go.Proofs.Ytnajopkaepjncaa

/- What rows have at a number. -/
namespace Go.Proofs.Ytnajopkaepjncaa
open Am
set_option linter.unusedVariables false

theorem find_cases (p : Row → Bool) (l : List Row) : ∀ (n k : Nat), findAt p l n k = -1 ∨ ∃ (j : Nat) (r : Row), findAt p l n k = (j : Int) ∧ l[j]? = some r := by
  intro n
  induction n with
  | zero => intro k; exact .inl rfl
  | succ n ih =>
    intro k
    simp only [findAt]
    cases h : l[k]? with
    | none => exact .inl rfl
    | some r =>
      simp only
      cases hp : p r with
      | true => exact .inr ⟨k, r, rfl, h⟩
      | false => exact ih (k + 1)
structure Pr where
  key : List UInt8
  val : List UInt8
def Pr.enc (p : Pr) : AV := .agg [.str p.key, .str p.val]
/-- What a key's rows have at a number. -/
def pickP (run : List Row) (n : Int) : Option Pr :=
  match decide (seenP run n ≥ 0), run[(seenP run n).toNat]? with
  | true, some r => match r.kind == 1 with
    | true => some ⟨r.key, r.val⟩
    | false => none
  | _, _ => none
def atFrom (rs : List (List Row)) (n : Int) : Nat → Nat → List Pr → List Pr
  | 0, _, out => out
  | m + 1, k, out => match rs[k]? with
    | some run => match pickP run n with
      | some p => atFrom rs n m (k + 1) (out ++ [p])
      | none => atFrom rs n m (k + 1) out
    | none => out
theorem get_run {rs : List (List Row)} {k : Nat} {r : List Row} (h : rs[k]? = some r) : (rs.map encRun)[k]? = some (encRun r) := by rw [List.getElem?_map, h]; rfl

noncomputable abbrev c13 : Code := at_ Try.f13 [true, true, true, false, true, false, false]
set_option maxRecDepth 8000 in
theorem at_loop (r0 : List Row) (rest : List (List Row)) (n : Int) (hrs : (r0 :: rest).length < 1048576) (hrl : ∀ run ∈ r0 :: rest, run.length < 1048576) (cells : Cl) : ∀ (m k : Nat) (out : List Pr) (H : Hp), (r0 :: rest).length - k = m → out.length ≤ k →
    L Try.prog K0 (K0.vars 13) 49 c13 [(1, .int .u64 n), (6, built 41 (out.map Pr.enc)), (14, .lst 22 ((r0 :: rest).map encRun) []), (15, .int .i64 (((r0 :: rest).map encRun).length : Nat)), (16, .int .i64 (k : Int))] H (ownd 6 (out.map Pr.enc)) cells
      fun e env H' sl cl => More H H' ∧ cl = cells ∧ e = .exit 0 ∧ sl = ownd 6 ((atFrom (r0 :: rest) n m k out).map Pr.enc) ∧ ∃ v1 v14 v15 v16 v17, env = [(1, v1), (6, built 41 ((atFrom (r0 :: rest) n m k out).map Pr.enc)), (14, v14), (15, v15), (16, v16), (17, v17)] := by
  intro m
  induction m with
  | zero =>
    intro k out H hn ho
    refine L_round ?_
    cases out with
    | nil =>
      refine And.intro (fun h => ?_) (fun h => ?_)
      · exfalso
        have h := dec_true (p := (k : Int) < (((r0 :: rest).map encRun).length : Nat)) h
        rw [List.length_map] at h
        omega
      · exact And.intro (More.refl H) (And.intro rfl (And.intro rfl (And.intro rfl ⟨_, _, _, _, _, rfl⟩)))
    | cons o os =>
      refine And.intro (fun h => ?_) (fun h => ?_)
      · exfalso
        have h := dec_true (p := (k : Int) < (((r0 :: rest).map encRun).length : Nat)) h
        rw [List.length_map] at h
        omega
      · exact And.intro (More.refl H) (And.intro rfl (And.intro rfl (And.intro rfl ⟨_, _, _, _, _, rfl⟩)))
  | succ m ih =>
    intro k out H hn ho
    have hk : k < (r0 :: rest).length := by omega
    obtain ⟨run, hrun⟩ : ∃ run, (r0 :: rest)[k]? = some run := ⟨(r0 :: rest)[k], List.getElem?_eq_getElem hk⟩
    have hlen : run.length < 1048576 := hrl run (List.mem_of_getElem? hrun)
    have hstep : atFrom (r0 :: rest) n (m + 1) k out = (match pickP run n with
      | some p => atFrom (r0 :: rest) n m (k + 1) (out ++ [p])
      | none => atFrom (r0 :: rest) n m (k + 1) out) := by
      simp only [atFrom, hrun]
    obtain ⟨E, hE⟩ := seen_spec (x := encRun run) (l := run) (.inr ⟨[], rfl⟩) (by omega) n H cells
    have nxt : ∀ e env H' sl cl, (More (H ++ E) H' ∧ cl = cells ∧ e = Ex.exit 0 ∧ sl = ownd 6 ((atFrom (r0 :: rest) n (m + 1) k out).map Pr.enc) ∧ ∃ v1 v14 v15 v16 v17, env = [(1, v1), (6, built 41 ((atFrom (r0 :: rest) n (m + 1) k out).map Pr.enc)), (14, v14), (15, v15), (16, v16), (17, v17)]) →
        (More H H' ∧ cl = cells ∧ e = Ex.exit 0 ∧ sl = ownd 6 ((atFrom (r0 :: rest) n (m + 1) k out).map Pr.enc) ∧ ∃ v1 v14 v15 v16 v17, env = [(1, v1), (6, built 41 ((atFrom (r0 :: rest) n (m + 1) k out).map Pr.enc)), (14, v14), (15, v15), (16, v16), (17, v17)]) :=
      fun e env H' sl cl h => ⟨(More.app H E).trans h.1, h.2⟩
    refine L_round ?_
    rcases find_cases (fun r => decide (r.seq ≤ n)) run run.length 0 with hs | ⟨j, r, hs, hr⟩
    · have hs : seenP run n = -1 := hs
      have hp : pickP run n = none := by
        unfold pickP
        rw [hs]
        rfl
      rw [hp] at hstep
      simp only at hstep
      rw [hs] at hE
      cases out with
      | nil =>
        refine And.intro (fun h => ?_) (fun h => ?_)
        · clear h
          refine And.intro (Int.natCast_nonneg _) (Exists.intro _ (And.intro (get_run hrun) ?_))
          refine And.intro rfl (Exists.intro _ (Exists.intro _ (Exists.intro _ (And.intro hE ?_))))
          refine And.intro (fun h => by cases h) (fun h => ?_)
          refine And.intro (fun h => by cases h) (fun h => ?_)
          refine Exists.intro (.int .i64 ((k + 1 : Nat) : Int)) (And.intro (i64_eq (by omega) (by omega) (by omega)) ?_)
          refine L_mono (ih (k + 1) [] (H ++ E) (by omega) (by exact Nat.zero_le _)) ?_
          rw [← hstep]
          exact nxt
        · exfalso
          have h := dec_false (p := (k : Int) < (((r0 :: rest).map encRun).length : Nat)) h
          rw [List.length_map] at h
          omega
      | cons o os =>
        refine And.intro (fun h => ?_) (fun h => ?_)
        · clear h
          refine And.intro (Int.natCast_nonneg _) (Exists.intro _ (And.intro (get_run hrun) ?_))
          refine And.intro rfl (Exists.intro _ (Exists.intro _ (Exists.intro _ (And.intro hE ?_))))
          refine And.intro (fun h => by cases h) (fun h => ?_)
          refine And.intro (fun h => by cases h) (fun h => ?_)
          refine Exists.intro (.int .i64 ((k + 1 : Nat) : Int)) (And.intro (i64_eq (by omega) (by omega) (by omega)) ?_)
          refine L_mono (ih (k + 1) (o :: os) (H ++ E) (by omega) (by omega)) ?_
          rw [← hstep]
          exact nxt
        · exfalso
          have h := dec_false (p := (k : Int) < (((r0 :: rest).map encRun).length : Nat)) h
          rw [List.length_map] at h
          omega
    · have hs : seenP run n = (j : Int) := hs
      have hp : pickP run n = (match r.kind == 1 with | true => some ⟨r.key, r.val⟩ | false => none) := by
        unfold pickP
        rw [hs]
        have : decide ((j : Int) ≥ 0) = true := by simp
        rw [this]
        simp only [Int.toNat_natCast, hr]
      rw [hs] at hE
      cases out with
      | nil =>
        refine And.intro (fun h => ?_) (fun h => ?_)
        · clear h
          refine And.intro (Int.natCast_nonneg _) (Exists.intro _ (And.intro (get_run hrun) ?_))
          refine And.intro rfl (Exists.intro _ (Exists.intro _ (Exists.intro _ (And.intro hE ?_))))
          refine And.intro (fun _ => ?_) (fun h => ?_)
          · refine And.intro (Int.natCast_nonneg _) (Exists.intro _ (And.intro (get_row hr) ?_))
            refine And.intro (fun h1 => ?_) (fun h1 => ?_)
            · replace h1 : (r.kind == 1) = true := h1
              rw [hp, h1] at hstep
              simp only [List.nil_append] at hstep
              refine Exists.intro _ (And.intro rfl ?_)
              refine And.intro (Int.natCast_nonneg _) (Exists.intro _ (And.intro (get_row hr) ?_))
              refine And.intro (Int.natCast_nonneg _) (Exists.intro _ (And.intro (get_row hr) ?_))
              refine Exists.intro _ (And.intro rfl ?_)
              refine And.intro (Nat.le_of_ble_eq_true rfl) (And.intro (Nat.le_of_ble_eq_true rfl) (And.intro (Nat.le_of_ble_eq_true rfl) (And.intro rfl ?_)))
              refine Exists.intro (.int .i64 ((k + 1 : Nat) : Int)) (And.intro (i64_eq (by omega) (by omega) (by omega)) ?_)
              refine L_mono (ih (k + 1) [Pr.mk r.key r.val] (H ++ E) (by omega) (by simp only [List.length_cons, List.length_nil] at ho ⊢; omega)) ?_
              rw [← hstep]
              exact nxt
            · replace h1 : (r.kind == 1) = false := h1
              rw [hp, h1] at hstep
              simp only at hstep
              refine Exists.intro (.int .i64 ((k + 1 : Nat) : Int)) (And.intro (i64_eq (by omega) (by omega) (by omega)) ?_)
              refine L_mono (ih (k + 1) [] (H ++ E) (by omega) (by exact Nat.zero_le _)) ?_
              rw [← hstep]
              exact nxt
          · exfalso
            have h := dec_false (p := (j : Int) ≥ 0) h
            omega
        · exfalso
          have h := dec_false (p := (k : Int) < (((r0 :: rest).map encRun).length : Nat)) h
          rw [List.length_map] at h
          omega
      | cons o os =>
        refine And.intro (fun h => ?_) (fun h => ?_)
        · clear h
          refine And.intro (Int.natCast_nonneg _) (Exists.intro _ (And.intro (get_run hrun) ?_))
          refine And.intro rfl (Exists.intro _ (Exists.intro _ (Exists.intro _ (And.intro hE ?_))))
          refine And.intro (fun _ => ?_) (fun h => ?_)
          · refine And.intro (Int.natCast_nonneg _) (Exists.intro _ (And.intro (get_row hr) ?_))
            refine And.intro (fun h1 => ?_) (fun h1 => ?_)
            · replace h1 : (r.kind == 1) = true := h1
              rw [hp, h1] at hstep
              simp only at hstep
              refine Exists.intro _ (And.intro rfl ?_)
              refine And.intro (Int.natCast_nonneg _) (Exists.intro _ (And.intro (get_row hr) ?_))
              refine And.intro (Int.natCast_nonneg _) (Exists.intro _ (And.intro (get_row hr) ?_))
              refine Exists.intro _ (And.intro rfl ?_)
              refine And.intro rfl (And.intro rfl (And.intro (?_ : (((o :: os).map Pr.enc).length + 1) * 32 ≤ 140737488355328) (And.intro (?_ : ((o :: os).map Pr.enc).length + 1 ≤ 140737488355328) (And.intro (Nat.le_of_ble_eq_true rfl) (And.intro rfl (Exists.intro (((o :: os) ++ [Pr.mk r.key r.val]).map Pr.enc) (And.intro (by rw [List.map_append]; rfl) ?_)))))))
              · rw [List.length_map]; omega
              · rw [List.length_map]; omega
              refine Exists.intro (.int .i64 ((k + 1 : Nat) : Int)) (And.intro (i64_eq (by omega) (by omega) (by omega)) ?_)
              refine L_mono (ih (k + 1) ((o :: os) ++ [Pr.mk r.key r.val]) (H ++ E) (by omega) (by simp only [List.length_append, List.length_cons, List.length_nil] at ho ⊢; omega)) ?_
              rw [← hstep]
              exact nxt
            · replace h1 : (r.kind == 1) = false := h1
              rw [hp, h1] at hstep
              simp only at hstep
              refine Exists.intro (.int .i64 ((k + 1 : Nat) : Int)) (And.intro (i64_eq (by omega) (by omega) (by omega)) ?_)
              refine L_mono (ih (k + 1) (o :: os) (H ++ E) (by omega) (by omega)) ?_
              rw [← hstep]
              exact nxt
          · exfalso
            have h := dec_false (p := (j : Int) ≥ 0) h
            omega
        · exfalso
          have h := dec_false (p := (k : Int) < (((r0 :: rest).map encRun).length : Nat)) h
          rw [List.length_map] at h
          omega
end Go.Proofs.Ytnajopkaepjncaa

/- What rows have at a number, whole. -/
namespace Go.Proofs.Ytnajopkaepjncaa
open Am
set_option linter.unusedVariables false

theorem runsFrom_len (l : List Row) : ∀ (n i fr : Nat) (out : List (List Row)), out.length ≤ i → (∀ r ∈ out, r.length ≤ l.length) → (runsFrom l n i fr out).length ≤ i + n ∧ ∀ r ∈ runsFrom l n i fr out, r.length ≤ l.length := by
  intro n
  induction n with
  | zero => intro i fr out h1 h2; exact ⟨h1, h2⟩
  | succ n ih =>
    intro i fr out h1 h2
    simp only [runsFrom]
    cases endAt l i with
    | true =>
      obtain ⟨h3, h4⟩ := ih (i + 1) (i + 1) (out ++ [(l.take (i + 1)).drop fr]) (by simp; exact h1) (by
        intro r hr
        rcases List.mem_append.1 hr with h | h
        · exact h2 r h
        · rw [List.mem_singleton] at h; subst h
          rw [List.length_drop, List.length_take]; omega)
      exact ⟨by simp only; omega, h4⟩
    | false =>
      obtain ⟨h3, h4⟩ := ih (i + 1) fr out (by omega) h2
      exact ⟨by simp only; omega, h4⟩
theorem runsP_len (l : List Row) : (runsP l).length ≤ l.length ∧ ∀ r ∈ runsP l, r.length ≤ l.length := by
  have := runsFrom_len l l.length 0 0 [] (Nat.le_refl _) (fun r h => by cases h)
  rw [Nat.zero_add] at this
  exact this

def atP (l : List Row) (n : Int) : List Pr := atFrom (runsP l) n (runsP l).length 0 []
/-- What At answers. -/
def atA (l : List Row) (n : Int) : AV := match orderP l with
  | true => .tup [built 41 ((atP l n).map Pr.enc), .int .i64 0]
  | false => .tup [.nils, .int .i64 2]
set_option maxRecDepth 8000 in
theorem at_spec {x : AV} {l : List Row} (hx : IsRows x l) (hl : l.length < 1048576) (n : Int) : Gv 13 [x, .int .u64 n] (atA l n) := by
  refine GivesR.one (gives_by Try.func13 rfl rfl rfl fun H cells => ?_)
  obtain ⟨E, hE⟩ := order_spec hx (by omega) H cells
  obtain ⟨F, hF⟩ := runs_spec hx hl (H ++ E) cells
  have hm : More H ((H ++ E) ++ F) := (More.app H E).trans (More.app _ F)
  obtain ⟨q1, q2⟩ := runsP_len l
  have hrest : ∀ (r0 : List Row) (rest : List (List Row)), runsP l = r0 :: rest → (r0 :: rest).length < 1048576 ∧ ∀ run ∈ r0 :: rest, run.length < 1048576 := by
    intro r0 rest h
    rw [h] at q1 q2
    exact ⟨by omega, fun run hr => by have := q2 run hr; omega⟩
  rcases hx with ⟨rfl, rfl⟩ | ⟨sp, rfl⟩
  · refine And.intro rfl (Exists.intro _ (Exists.intro _ (Exists.intro _ (And.intro hE ?_))))
    cases ho : orderP [] with
    | false =>
      have ha : atA [] n = .tup [.nils, .int .i64 2] := by unfold atA; rw [ho]
      rw [ha]
      refine And.intro (fun _ => ?_) (fun h => by cases h)
      exact Exists.intro _ (And.intro rfl (And.intro rfl (And.intro (More.app H E) rfl)))
    | true =>
      have ha : atA [] n = .tup [built 41 ((atP [] n).map Pr.enc), .int .i64 0] := by unfold atA; rw [ho]
      refine And.intro (fun h => by cases h) (fun _ => ?_)
      refine And.intro rfl (Exists.intro _ (Exists.intro _ (Exists.intro _ (And.intro hF ?_))))
      cases hr : runsP [] with
      | nil =>
        have hp : atP [] n = [] := by unfold atP; rw [hr]; rfl
        rw [hp] at ha
        rw [ha]
        refine L_round ?_
        refine And.intro (fun h => by cases h) (fun h => ?_)
        exact Exists.intro _ (And.intro rfl (And.intro rfl (And.intro hm rfl)))
      | cons r0 rest =>
        obtain ⟨h1, h2⟩ := hrest r0 rest hr
        refine L_mono (at_loop r0 rest n h1 h2 cells (r0 :: rest).length 0 [] ((H ++ E) ++ F) rfl (Nat.le_refl _)) ?_
        rintro e env H' sl cl ⟨h3, rfl, rfl, rfl, v1, v14, v15, v16, v17, rfl⟩
        have hp : atFrom (r0 :: rest) n (r0 :: rest).length 0 [] = atP [] n := by unfold atP; rw [hr]
        rw [hp, ha]
        cases hq : atP [] n with
        | nil => exact Exists.intro _ (And.intro rfl (And.intro rfl (And.intro (hm.trans h3) rfl)))
        | cons o os => exact Exists.intro _ (And.intro rfl (And.intro rfl (And.intro (hm.trans h3) rfl)))
  · refine And.intro rfl (Exists.intro _ (Exists.intro _ (Exists.intro _ (And.intro hE ?_))))
    cases ho : orderP l with
    | false =>
      have ha : atA l n = .tup [.nils, .int .i64 2] := by unfold atA; rw [ho]
      rw [ha]
      refine And.intro (fun _ => ?_) (fun h => by cases h)
      exact Exists.intro _ (And.intro rfl (And.intro rfl (And.intro (More.app H E) rfl)))
    | true =>
      have ha : atA l n = .tup [built 41 ((atP l n).map Pr.enc), .int .i64 0] := by unfold atA; rw [ho]
      refine And.intro (fun h => by cases h) (fun _ => ?_)
      refine And.intro rfl (Exists.intro _ (Exists.intro _ (Exists.intro _ (And.intro hF ?_))))
      cases hr : runsP l with
      | nil =>
        have hp : atP l n = [] := by unfold atP; rw [hr]; rfl
        rw [hp] at ha
        rw [ha]
        refine L_round ?_
        refine And.intro (fun h => by cases h) (fun h => ?_)
        exact Exists.intro _ (And.intro rfl (And.intro rfl (And.intro hm rfl)))
      | cons r0 rest =>
        obtain ⟨h1, h2⟩ := hrest r0 rest hr
        refine L_mono (at_loop r0 rest n h1 h2 cells (r0 :: rest).length 0 [] ((H ++ E) ++ F) rfl (Nat.le_refl _)) ?_
        rintro e env H' sl cl ⟨h3, rfl, rfl, rfl, v1, v14, v15, v16, v17, rfl⟩
        have hp : atFrom (r0 :: rest) n (r0 :: rest).length 0 [] = atP l n := by unfold atP; rw [hr]
        rw [hp, ha]
        cases hq : atP l n with
        | nil => exact Exists.intro _ (And.intro rfl (And.intro rfl (And.intro (hm.trans h3) rfl)))
        | cons o os => exact Exists.intro _ (And.intro rfl (And.intro rfl (And.intro (hm.trans h3) rfl)))
end Go.Proofs.Ytnajopkaepjncaa

/- Are rows in order? The document's own. -/
namespace Go.Proofs.Ytnajopkaepjncaa
open Am
set_option linter.unusedVariables false

theorem ahead2_spec (r : Row) (key : List UInt8) (seq : Int) : Gv 39 [r.enc, .str key, .int .u64 seq] (.bool (aheadP r key seq)) := by
  intro H cells
  refine ⟨[some ⟨39, r.enc.cells⟩], ?_⟩
  refine calls_by Try.func39 rfl rfl rfl ?_
  refine And.intro (Nat.succ_pos _) ?_
  refine Exists.intro _ (And.intro rfl (Exists.intro _ (And.intro rfl ?_)))
  refine Exists.intro _ (And.intro (get_last _ _) ?_)
  refine And.intro (fun h1 => ?_) (fun h1 => ?_)
  · replace h1 : Op.bytesLess r.key key = true := h1
    refine And.intro (bool_eq ?_) (And.intro rfl rfl)
    unfold aheadP; rw [h1]; rfl
  · replace h1 : Op.bytesLess r.key key = false := h1
    refine Exists.intro _ (And.intro (get_last _ _) ?_)
    refine And.intro (fun h2 => ?_) (fun h2 => ?_)
    · replace h2 : (r.key == key) = true := h2
      refine Exists.intro _ (And.intro (get_last _ _) ?_)
      refine And.intro (bool_eq (?_ : decide (r.seq > seq) = aheadP r key seq)) (And.intro rfl rfl)
      unfold aheadP; rw [h1, h2]; rfl
    · replace h2 : (r.key == key) = false := h2
      refine And.intro (bool_eq (?_ : false = aheadP r key seq)) (And.intro rfl rfl)
      unfold aheadP; rw [h1, h2]; rfl

noncomputable abbrev c29 : Code := at_ Try.f29 [true, false, true, false, false]
theorem order2_loop (l : List Row) (sp : List AV) (hl : l.length < 4611686018427387904) (cells : Cl) : ∀ (n k : Nat) (H : Hp), l.length - (k + 1) = n →
    L Try.prog K0 (K0.vars 29) 27 c29 [(0, .lst 39 (l.map Row.enc) sp), (3, .int .i64 ((k + 1 : Nat) : Int))] H [] cells
      fun e env H' sl cl => More H H' ∧ cl = cells ∧ sl = [] ∧ (orderFrom l n k = false → env = [(2, .bool false)]) ∧ e = (match orderFrom l n k with | true => .exit 0 | false => .ret) := by
  intro n
  induction n with
  | zero =>
    intro k H hn
    refine L_round ?_
    refine And.intro (fun h => ?_) (fun h => ?_)
    · exfalso
      have h := dec_true (p := ((k + 1 : Nat) : Int) < ((l.map Row.enc).length : Nat)) h
      rw [List.length_map] at h
      omega
    · refine And.intro (More.refl H) (And.intro rfl (And.intro rfl (And.intro (fun h => by cases h) rfl)))
  | succ n ih =>
    intro k H hn
    have hk : k + 1 < l.length := by omega
    obtain ⟨a, ha⟩ : ∃ a, l[k]? = some a := ⟨l[k], List.getElem?_eq_getElem (by omega)⟩
    obtain ⟨b, hb⟩ : ∃ b, l[k + 1]? = some b := ⟨l[k + 1], List.getElem?_eq_getElem hk⟩
    refine L_round ?_
    refine And.intro (fun h => ?_) (fun h => ?_)
    · clear h
      refine Exists.intro _ (And.intro rfl ?_)
      refine Exists.intro (.int .i64 (k : Int)) (And.intro (i64_eq (by omega) (by omega) (by omega)) ?_)
      refine And.intro (Int.natCast_nonneg _) (Exists.intro _ (And.intro (get_row ha) ?_))
      refine And.intro (Int.natCast_nonneg _) (Exists.intro _ (And.intro (get_row hb) ?_))
      refine And.intro (Int.natCast_nonneg _) (Exists.intro _ (And.intro (get_row hb) ?_))
      obtain ⟨E, hE⟩ := ahead2_spec a b.key b.seq H cells
      refine And.intro rfl (Exists.intro _ (Exists.intro _ (Exists.intro _ (And.intro hE ?_))))
      have hstep : orderFrom l (n + 1) k = (match aheadP a b.key b.seq with | true => orderFrom l n (k + 1) | false => false) := by
        simp only [orderFrom, ha, hb] <;> rfl
      cases hah : aheadP a b.key b.seq with
      | false =>
        rw [hah] at hstep
        rw [hstep]
        refine And.intro (fun h => ?_) (fun h => by cases h)
        exact And.intro (More.app H E) (And.intro rfl (And.intro rfl (And.intro (fun _ => rfl) rfl)))
      | true =>
        rw [hah] at hstep
        rw [hstep]
        refine And.intro (fun h => by cases h) (fun h => ?_)
        refine Exists.intro (.int .i64 ((k + 1 + 1 : Nat) : Int)) (And.intro (i64_eq (by omega) (by omega) (by omega)) ?_)
        refine L_mono (ih (k + 1) (H ++ E) (by omega)) ?_
        rintro e env H' sl cl ⟨h1, h2⟩
        exact ⟨(More.app H E).trans h1, h2⟩
    · exfalso
      have h := dec_false (p := ((k + 1 : Nat) : Int) < ((l.map Row.enc).length : Nat)) h
      rw [List.length_map] at h
      omega

theorem order2_spec {x : AV} {l : List Row} (hx : IsRows x l) (hl : l.length < 4611686018427387904) : Gv 29 [x] (.bool (orderP l)) := by
  refine GivesR.one (gives_by Try.func29 rfl rfl rfl fun H cells => ?_)
  rcases hx with ⟨rfl, rfl⟩ | ⟨sp, rfl⟩
  · refine L_round ?_
    refine And.intro (fun h => by cases h) (fun h => ?_)
    exact Exists.intro _ (And.intro rfl (And.intro rfl (And.intro (More.refl H) rfl)))
  · refine L_mono (order2_loop l sp hl cells _ 0 H rfl) ?_
    rintro e env H' sl cl ⟨h1, rfl, rfl, h2, h3⟩
    have ho : orderFrom l (l.length - (0 + 1)) 0 = orderP l := rfl
    rw [ho] at h2 h3
    cases hp : orderP l with
    | true =>
      rw [hp] at h3
      subst h3
      exact Exists.intro _ (And.intro rfl (And.intro rfl (And.intro h1 rfl)))
    | false =>
      rw [hp] at h3
      subst h3
      rw [h2 hp]
      exact Exists.intro _ (And.intro rfl (And.intro rfl (And.intro h1 rfl)))
end Go.Proofs.Ytnajopkaepjncaa

/- Does a number see the row at a place? The document's own. -/
namespace Go.Proofs.Ytnajopkaepjncaa
open Am
set_option linter.unusedVariables false

def seesP (l : List Row) (i : Nat) (n : Int) : Bool :=
  match l[i]? with
  | some a => decide (a.seq ≤ n) && ((i == 0) || match l[i - 1]? with
    | some b => !(b.key == a.key) || decide (b.seq > n)
    | none => true)
  | none => false
set_option maxRecDepth 8000 in
theorem sees2_spec (l : List Row) (sp : List AV) (hl : l.length < 4611686018427387904) {i : Nat} (hi : i < l.length) (n : Int) : Gv 30 [.lst 39 (l.map Row.enc) sp, .int .i64 (i : Int), .int .u64 n] (.bool (seesP l i n)) := by
  refine GivesR.one (gives_by Try.func30 rfl rfl rfl fun H cells => ?_)
  obtain ⟨a, ha⟩ : ∃ a, l[i]? = some a := ⟨l[i], List.getElem?_eq_getElem hi⟩
  refine Exists.intro _ (And.intro rfl ?_)
  refine And.intro (Int.natCast_nonneg _) (Exists.intro _ (And.intro (get_row ha) ?_))
  refine And.intro (fun h1 => ?_) (fun h1 => ?_)
  · replace h1 : decide (a.seq ≤ n) = true := h1
    refine And.intro (fun h2 => ?_) (fun h2 => ?_)
    · replace h2 : ((i : Int) == 0) = true := h2
      have h0 : i = 0 := by rw [beq_iff_eq] at h2; omega
      subst h0
      have hs : seesP l 0 n = true := by unfold seesP; rw [ha]; simp only [h1]; rfl
      rw [hs]
      refine And.intro (fun _ => ?_) (fun h => by cases h)
      exact Exists.intro _ (And.intro rfl (And.intro rfl (And.intro (More.refl H) rfl)))
    · replace h2 : ((i : Int) == 0) = false := h2
      have h0 : i ≠ 0 := by rw [beq_eq_false_iff_ne] at h2; omega
      obtain ⟨b, hb⟩ : ∃ b, l[i - 1]? = some b := ⟨l[i - 1], List.getElem?_eq_getElem (by omega)⟩
      have hs : seesP l i n = (!(b.key == a.key) || decide (b.seq > n)) := by
        unfold seesP; rw [ha]; simp only [h1, hb]
        have : (i == 0) = false := by rw [beq_eq_false_iff_ne]; exact h0
        rw [this]; rfl
      rw [hs]
      refine Exists.intro (.int .i64 ((i - 1 : Nat) : Int)) (And.intro (i64_eq (by omega) (by omega) (by omega)) ?_)
      refine And.intro (Int.natCast_nonneg _) (Exists.intro _ (And.intro (get_row hb) ?_))
      refine And.intro (Int.natCast_nonneg _) (Exists.intro _ (And.intro (get_row ha) ?_))
      refine And.intro (fun h3 => ?_) (fun h3 => ?_)
      · replace h3 : (!(b.key == a.key)) = true := h3
        rw [h3]
        exact Exists.intro _ (And.intro rfl (And.intro rfl (And.intro (More.refl H) rfl)))
      · replace h3 : (!(b.key == a.key)) = false := h3
        rw [h3]
        refine Exists.intro (.int .i64 ((i - 1 : Nat) : Int)) (And.intro (i64_eq (by omega) (by omega) (by omega)) ?_)
        refine And.intro (Int.natCast_nonneg _) (Exists.intro _ (And.intro (get_row hb) ?_))
        exact Exists.intro _ (And.intro rfl (And.intro rfl (And.intro (More.refl H) rfl)))
  · replace h1 : decide (a.seq ≤ n) = false := h1
    have hs : seesP l i n = false := by unfold seesP; rw [ha]; simp only [h1]; rfl
    rw [hs]
    exact Exists.intro _ (And.intro rfl (And.intro rfl (And.intro (More.refl H) rfl)))
end Go.Proofs.Ytnajopkaepjncaa

/- What rows have at a number: the document's own. -/
namespace Go.Proofs.Ytnajopkaepjncaa
open Am
set_option linter.unusedVariables false
set_option linter.unusedSimpArgs false

def refFrom (l : List Row) (n : Int) : Nat → Nat → List Pr → List Pr
  | 0, _, out => out
  | m + 1, i, out => match l[i]? with
    | some r => match seesP l i n && (r.kind == 1) with
      | true => refFrom l n m (i + 1) (out ++ [Pr.mk r.key r.val])
      | false => refFrom l n m (i + 1) out
    | none => out
noncomputable abbrev c14 : Code := at_ Try.f14 [true, true, true, false, true, false, false]
set_option maxRecDepth 8000 in
theorem ref_loop (l : List Row) (sp : List AV) (n : Int) (hl : l.length < 1048576) (cells : Cl) : ∀ (m i : Nat) (out : List Pr) (H : Hp), l.length - i = m → out.length ≤ i →
    L Try.prog K0 (K0.vars 14) 44 c14 [(0, .lst 39 (l.map Row.enc) sp), (1, .int .u64 n), (6, built 41 (out.map Pr.enc)), (7, .int .i64 (i : Int))] H (ownd 6 (out.map Pr.enc)) cells
      fun e env H' sl cl => More H H' ∧ cl = cells ∧ e = .exit 0 ∧ sl = ownd 6 ((refFrom l n m i out).map Pr.enc) ∧ ∃ v0 v1 v7 v14, env = [(0, v0), (1, v1), (6, built 41 ((refFrom l n m i out).map Pr.enc)), (7, v7), (14, v14)] := by
  intro m
  induction m with
  | zero =>
    intro i out H hn ho
    refine L_round ?_
    cases out with
    | nil =>
      refine And.intro (fun h => ?_) (fun h => ?_)
      · exfalso
        have h := dec_true (p := (i : Int) < ((l.map Row.enc).length : Nat)) h
        rw [List.length_map] at h
        omega
      · exact And.intro (More.refl H) (And.intro rfl (And.intro rfl (And.intro rfl ⟨_, _, _, _, rfl⟩)))
    | cons o os =>
      refine And.intro (fun h => ?_) (fun h => ?_)
      · exfalso
        have h := dec_true (p := (i : Int) < ((l.map Row.enc).length : Nat)) h
        rw [List.length_map] at h
        omega
      · exact And.intro (More.refl H) (And.intro rfl (And.intro rfl (And.intro rfl ⟨_, _, _, _, rfl⟩)))
  | succ m ih =>
    intro i out H hn ho
    have hi : i < l.length := by omega
    obtain ⟨r, hr⟩ : ∃ r, l[i]? = some r := ⟨l[i], List.getElem?_eq_getElem hi⟩
    obtain ⟨E, hE⟩ := sees2_spec l sp (by omega) hi n H cells
    have hstep : refFrom l n (m + 1) i out = (match seesP l i n && (r.kind == 1) with
      | true => refFrom l n m (i + 1) (out ++ [Pr.mk r.key r.val])
      | false => refFrom l n m (i + 1) out) := by
      simp only [refFrom, hr]
    have nxt : ∀ e env H' sl cl, (More (H ++ E) H' ∧ cl = cells ∧ e = Ex.exit 0 ∧ sl = ownd 6 ((refFrom l n (m + 1) i out).map Pr.enc) ∧ ∃ v0 v1 v7 v14, env = [(0, v0), (1, v1), (6, built 41 ((refFrom l n (m + 1) i out).map Pr.enc)), (7, v7), (14, v14)]) →
        (More H H' ∧ cl = cells ∧ e = Ex.exit 0 ∧ sl = ownd 6 ((refFrom l n (m + 1) i out).map Pr.enc) ∧ ∃ v0 v1 v7 v14, env = [(0, v0), (1, v1), (6, built 41 ((refFrom l n (m + 1) i out).map Pr.enc)), (7, v7), (14, v14)]) :=
      fun e env H' sl cl h => ⟨(More.app H E).trans h.1, h.2⟩
    refine L_round ?_
    cases hse : seesP l i n with
    | false =>
      rw [hse] at hE hstep
      simp only [Bool.false_and] at hstep
      cases out with
      | nil =>
        refine And.intro (fun h => ?_) (fun h => ?_)
        · clear h
          refine And.intro rfl (Exists.intro _ (Exists.intro _ (Exists.intro _ (And.intro hE ?_))))
          refine And.intro (fun h => by cases h) (fun h => ?_)
          refine And.intro (fun h => by cases h) (fun h => ?_)
          refine Exists.intro (.int .i64 ((i + 1 : Nat) : Int)) (And.intro (i64_eq (by omega) (by omega) (by omega)) ?_)
          refine L_mono (ih (i + 1) [] (H ++ E) (by omega) (by exact Nat.zero_le _)) ?_
          rw [← hstep]
          exact nxt
        · exfalso
          have h := dec_false (p := (i : Int) < ((l.map Row.enc).length : Nat)) h
          rw [List.length_map] at h
          omega
      | cons o os =>
        refine And.intro (fun h => ?_) (fun h => ?_)
        · clear h
          refine And.intro rfl (Exists.intro _ (Exists.intro _ (Exists.intro _ (And.intro hE ?_))))
          refine And.intro (fun h => by cases h) (fun h => ?_)
          refine And.intro (fun h => by cases h) (fun h => ?_)
          refine Exists.intro (.int .i64 ((i + 1 : Nat) : Int)) (And.intro (i64_eq (by omega) (by omega) (by omega)) ?_)
          refine L_mono (ih (i + 1) (o :: os) (H ++ E) (by omega) (by omega)) ?_
          rw [← hstep]
          exact nxt
        · exfalso
          have h := dec_false (p := (i : Int) < ((l.map Row.enc).length : Nat)) h
          rw [List.length_map] at h
          omega
    | true =>
      rw [hse] at hE hstep
      simp only [Bool.true_and] at hstep
      cases out with
      | nil =>
        refine And.intro (fun h => ?_) (fun h => ?_)
        · clear h
          refine And.intro rfl (Exists.intro _ (Exists.intro _ (Exists.intro _ (And.intro hE ?_))))
          refine And.intro (fun _ => ?_) (fun h => by cases h)
          refine And.intro (Int.natCast_nonneg _) (Exists.intro _ (And.intro (get_row hr) ?_))
          refine And.intro (fun h1 => ?_) (fun h1 => ?_)
          · replace h1 : (r.kind == 1) = true := h1
            rw [h1] at hstep
            simp only [List.nil_append] at hstep
            refine Exists.intro _ (And.intro rfl ?_)
            refine And.intro (Int.natCast_nonneg _) (Exists.intro _ (And.intro (get_row hr) ?_))
            refine And.intro (Int.natCast_nonneg _) (Exists.intro _ (And.intro (get_row hr) ?_))
            refine Exists.intro _ (And.intro rfl ?_)
            refine And.intro (Nat.le_of_ble_eq_true rfl) (And.intro (Nat.le_of_ble_eq_true rfl) (And.intro (Nat.le_of_ble_eq_true rfl) (And.intro rfl ?_)))
            refine Exists.intro (.int .i64 ((i + 1 : Nat) : Int)) (And.intro (i64_eq (by omega) (by omega) (by omega)) ?_)
            refine L_mono (ih (i + 1) [Pr.mk r.key r.val] (H ++ E) (by omega) (by simp only [List.length_append, List.length_cons, List.length_nil] at ho ⊢; omega)) ?_
            rw [← hstep]
            exact nxt
          · replace h1 : (r.kind == 1) = false := h1
            rw [h1] at hstep
            simp only at hstep
            refine Exists.intro (.int .i64 ((i + 1 : Nat) : Int)) (And.intro (i64_eq (by omega) (by omega) (by omega)) ?_)
            refine L_mono (ih (i + 1) [] (H ++ E) (by omega) (by exact Nat.zero_le _)) ?_
            rw [← hstep]
            exact nxt
        · exfalso
          have h := dec_false (p := (i : Int) < ((l.map Row.enc).length : Nat)) h
          rw [List.length_map] at h
          omega
      | cons o os =>
        refine And.intro (fun h => ?_) (fun h => ?_)
        · clear h
          refine And.intro rfl (Exists.intro _ (Exists.intro _ (Exists.intro _ (And.intro hE ?_))))
          refine And.intro (fun _ => ?_) (fun h => by cases h)
          refine And.intro (Int.natCast_nonneg _) (Exists.intro _ (And.intro (get_row hr) ?_))
          refine And.intro (fun h1 => ?_) (fun h1 => ?_)
          · replace h1 : (r.kind == 1) = true := h1
            rw [h1] at hstep
            simp only [List.nil_append] at hstep
            refine Exists.intro _ (And.intro rfl ?_)
            refine And.intro (Int.natCast_nonneg _) (Exists.intro _ (And.intro (get_row hr) ?_))
            refine And.intro (Int.natCast_nonneg _) (Exists.intro _ (And.intro (get_row hr) ?_))
            refine Exists.intro _ (And.intro rfl ?_)
            refine And.intro rfl (And.intro rfl (And.intro (?_ : (((o :: os).map Pr.enc).length + 1) * 32 ≤ 140737488355328) (And.intro (?_ : ((o :: os).map Pr.enc).length + 1 ≤ 140737488355328) (And.intro (Nat.le_of_ble_eq_true rfl) (And.intro rfl (Exists.intro (((o :: os) ++ [Pr.mk r.key r.val]).map Pr.enc) (And.intro (by rw [List.map_append]; rfl) ?_)))))))
            · rw [List.length_map]; omega
            · rw [List.length_map]; omega
            refine Exists.intro (.int .i64 ((i + 1 : Nat) : Int)) (And.intro (i64_eq (by omega) (by omega) (by omega)) ?_)
            refine L_mono (ih (i + 1) ((o :: os) ++ [Pr.mk r.key r.val]) (H ++ E) (by omega) (by simp only [List.length_append, List.length_cons, List.length_nil] at ho ⊢; omega)) ?_
            rw [← hstep]
            exact nxt
          · replace h1 : (r.kind == 1) = false := h1
            rw [h1] at hstep
            simp only at hstep
            refine Exists.intro (.int .i64 ((i + 1 : Nat) : Int)) (And.intro (i64_eq (by omega) (by omega) (by omega)) ?_)
            refine L_mono (ih (i + 1) (o :: os) (H ++ E) (by omega) (by omega)) ?_
            rw [← hstep]
            exact nxt
        · exfalso
          have h := dec_false (p := (i : Int) < ((l.map Row.enc).length : Nat)) h
          rw [List.length_map] at h
          omega

def refA (l : List Row) (n : Int) : AV := match orderP l with
  | true => .tup [built 41 ((refFrom l n l.length 0 []).map Pr.enc), .int .i64 0]
  | false => .tup [.nils, .int .i64 2]
set_option maxRecDepth 8000 in
theorem ref_at_spec {x : AV} {l : List Row} (hx : IsRows x l) (hl : l.length < 1048576) (n : Int) : Gv 14 [x, .int .u64 n] (refA l n) := by
  refine GivesR.one (gives_by Try.func14 rfl rfl rfl fun H cells => ?_)
  obtain ⟨E, hE⟩ := order2_spec hx (by omega) H cells
  have hm := More.app H E
  rcases hx with ⟨rfl, rfl⟩ | ⟨sp, rfl⟩
  · refine And.intro rfl (Exists.intro _ (Exists.intro _ (Exists.intro _ (And.intro hE ?_))))
    have ho : orderP [] = true := rfl
    have ha : refA [] n = .tup [.nils, .int .i64 0] := rfl
    rw [ho, ha]
    refine And.intro (fun h => by cases h) (fun _ => ?_)
    refine L_round ?_
    refine And.intro (fun h => by cases h) (fun h => ?_)
    exact Exists.intro _ (And.intro rfl (And.intro rfl (And.intro hm rfl)))
  · refine And.intro rfl (Exists.intro _ (Exists.intro _ (Exists.intro _ (And.intro hE ?_))))
    cases ho : orderP l with
    | false =>
      have ha : refA l n = .tup [.nils, .int .i64 2] := by unfold refA; rw [ho]
      rw [ha]
      refine And.intro (fun _ => ?_) (fun h => by cases h)
      exact Exists.intro _ (And.intro rfl (And.intro rfl (And.intro hm rfl)))
    | true =>
      have ha : refA l n = .tup [built 41 ((refFrom l n l.length 0 []).map Pr.enc), .int .i64 0] := by unfold refA; rw [ho]
      rw [ha]
      refine And.intro (fun h => by cases h) (fun _ => ?_)
      refine L_mono (ref_loop l sp n hl cells l.length 0 [] (H ++ E) rfl (Nat.le_refl _)) ?_
      rintro e env H' sl cl ⟨h3, rfl, rfl, rfl, v0, v1, v7, v14, rfl⟩
      cases hq : refFrom l n l.length 0 [] with
      | nil => exact Exists.intro _ (And.intro rfl (And.intro rfl (And.intro (hm.trans h3) rfl)))
      | cons o os => exact Exists.intro _ (And.intro rfl (And.intro rfl (And.intro (hm.trans h3) rfl)))
end Go.Proofs.Ytnajopkaepjncaa

/- Two lists that have the same elements are said to be the same. -/
namespace Go.Proofs.Ytnajopkaepjncaa
open Am
set_option linter.unusedVariables false
set_option maxRecDepth 8000

theorem g41 : Try.prog.eqGuardType Try.prog.depth 41 = false := by kernel_rfl
theorem h41 : Try.prog.stoodInHeld 41 = false := by kernel_rfl
theorem g39 : Try.prog.eqGuardType Try.prog.depth 39 = false := by kernel_rfl
theorem h39 : Try.prog.stoodInHeld 39 = false := by kernel_rfl
def andL : List Bool → Option Bool
  | [] => some true
  | b :: r => match some b with
    | some true => andL r
    | some false => some false
    | none => none
theorem andL_all : ∀ l : List Bool, andL l = some (l.all id)
  | [] => rfl
  | true :: r => by simp only [andL, andL_all r]; rfl
  | false :: r => rfl
theorem eqIn41 (a b c d : List UInt8) : eqIn Try.prog 10000 41 (.agg [.str a, .str b]) (.agg [.str c, .str d]) = some (a == c && b == d) := by
  show (if Try.prog.stoodInHeld 41 then none else eqFields (eqIn Try.prog 9999) Try.prog _ _ _) = _
  rw [h41]
  show andL [a == c, b == d] = _
  rw [andL_all]
  simp
theorem eqIn39 (a b : Row) : eqIn Try.prog 10000 39 a.enc b.enc = some (a.key == b.key && (a.seq == b.seq && (a.kind == b.kind && a.val == b.val))) := by
  show (if Try.prog.stoodInHeld 39 then none else eqFields (eqIn Try.prog 9999) Try.prog _ _ _) = _
  rw [h39]
  show andL [a.key == b.key, a.seq == b.seq, a.kind == b.kind, a.val == b.val] = _
  rw [andL_all]
  simp
theorem guard_agg {t : TypeId} (h : Try.prog.eqGuardType Try.prog.depth t = false) (x y : Operand) (cs ds : List AV) : eqGuardA Try.prog t x y (.agg cs) (.agg ds) = true := by
  show (!(Try.prog.eqGuardType Try.prog.depth t)) = true
  rw [h]; rfl
theorem neq_agg {t : TypeId} (h : Try.prog.eqGuardType Try.prog.depth t = false) (x y : Operand) {cs ds : List AV} {b : Bool} (he : eqIn Try.prog 10000 t (.agg cs) (.agg ds) = some b) : binOpA Try.prog .neq t x y (.agg cs) (.agg ds) = some (.bool !b) := by
  show (if plainA (.agg cs) && eqGuardA Try.prog t x y (.agg cs) (.agg ds) then (eqIn Try.prog 10000 t (.agg cs) (.agg ds)).map (fun r => AV.bool !r) else none) = _
  rw [guard_agg h, he]; rfl
theorem eql_agg {t : TypeId} (h : Try.prog.eqGuardType Try.prog.depth t = false) (x y : Operand) {cs ds : List AV} {b : Bool} (he : eqIn Try.prog 10000 t (.agg cs) (.agg ds) = some b) : binOpA Try.prog .eql t x y (.agg cs) (.agg ds) = some (.bool b) := by
  show (if plainA (.agg cs) && eqGuardA Try.prog t x y (.agg cs) (.agg ds) then (eqIn Try.prog 10000 t (.agg cs) (.agg ds)).map AV.bool else none) = _
  rw [guard_agg h, he]; rfl
theorem neq41 (x y : Operand) (p : Pr) : binOpA Try.prog .neq 41 x y (.agg [.str p.key, .str p.val]) (.agg [.str p.key, .str p.val]) = some (.bool false) := by
  have := neq_agg g41 x y (eqIn41 p.key p.val p.key p.val)
  simpa using this
theorem neq39 (x y : Operand) (p : Row) : binOpA Try.prog .neq 39 x y (.agg [.str p.key, .int .u64 p.seq, .int .i64 p.kind, .str p.val]) (.agg [.str p.key, .int .u64 p.seq, .int .i64 p.kind, .str p.val]) = some (.bool false) := by
  have := neq_agg g39 x y (eqIn39 p p)
  simpa using this
theorem get_pr {xs : List Pr} {k : Nat} {r : Pr} (h : xs[k]? = some r) : (xs.map Pr.enc)[k]? = some r.enc := by rw [List.getElem?_map, h]; rfl
/-- A list of these elements, as it comes in. -/
def IsL (e : TypeId) (x : AV) (xs : List AV) : Prop := (x = .nils ∧ xs = []) ∨ ∃ sp, x = .lst e xs sp


noncomputable abbrev c15 : Code := at_ Try.f15 [true, true, false, true, false, false]
theorem same_loop15 (l : List Pr) (s1 s2 : List AV) (hl : l.length < 4611686018427387904) (cells : Cl) : ∀ (m k : Nat) (H : Hp), l.length - k = m →
    L Try.prog K0 (K0.vars 15) 26 c15 [(0, .lst 41 (l.map Pr.enc) s1), (1, .lst 41 (l.map Pr.enc) s2), (5, .int .i64 (k : Int))] H [] cells
      fun e env H' sl cl => More H H' ∧ cl = cells ∧ e = .exit 0 ∧ sl = [] := by
  intro m
  induction m with
  | zero =>
    intro k H hn
    refine L_round ?_
    refine And.intro (fun h => ?_) (fun h => ?_)
    · exfalso
      have h := dec_true (p := (k : Int) < ((l.map Pr.enc).length : Nat)) h
      rw [List.length_map] at h
      omega
    · exact And.intro (More.refl H) (And.intro rfl (And.intro rfl rfl))
  | succ m ih =>
    intro k H hn
    obtain ⟨r, hr⟩ : ∃ r, l[k]? = some r := ⟨l[k], List.getElem?_eq_getElem (by omega)⟩
    refine L_round ?_
    refine And.intro (fun h => ?_) (fun h => ?_)
    · clear h
      refine Exists.intro _ (And.intro rfl ?_)
      refine And.intro (Int.natCast_nonneg _) (Exists.intro _ (And.intro (get_pr hr) ?_))
      refine And.intro (Int.natCast_nonneg _) (Exists.intro _ (And.intro (get_pr hr) ?_))
      refine Exists.intro (.bool false) (And.intro (neq41 _ _ r) ?_)
      refine And.intro (fun h => by cases h) (fun _ => ?_)
      refine Exists.intro (.int .i64 ((k + 1 : Nat) : Int)) (And.intro (i64_eq (by omega) (by omega) (by omega)) ?_)
      exact ih (k + 1) H (by omega)
    · exfalso
      have h := dec_false (p := (k : Int) < ((l.map Pr.enc).length : Nat)) h
      rw [List.length_map] at h
      omega
theorem same_spec15 {x y : AV} {l : List Pr} (hx : IsL 41 x (l.map Pr.enc)) (hy : IsL 41 y (l.map Pr.enc)) (hl : l.length < 4611686018427387904) : Gv 15 [x, y] (.bool true) := by
  refine GivesR.one (gives_by Try.func15 rfl rfl rfl fun H cells => ?_)
  rcases hx with ⟨rfl, h1⟩ | ⟨s1, rfl⟩
  · rcases hy with ⟨rfl, h2⟩ | ⟨s2, rfl⟩
    · refine And.intro (fun h => by cases h) (fun _ => ?_)
      refine L_round ?_
      refine And.intro (fun h => by cases h) (fun h => ?_)
      exact Exists.intro _ (And.intro rfl (And.intro rfl (And.intro (More.refl H) rfl)))
    · obtain rfl : l = [] := List.map_eq_nil_iff.1 h1
      refine And.intro (fun h => by cases h) (fun _ => ?_)
      refine L_round ?_
      refine And.intro (fun h => by cases h) (fun h => ?_)
      exact Exists.intro _ (And.intro rfl (And.intro rfl (And.intro (More.refl H) rfl)))
  · rcases hy with ⟨rfl, h2⟩ | ⟨s2, rfl⟩
    · obtain rfl : l = [] := List.map_eq_nil_iff.1 h2
      refine And.intro (fun h => by cases h) (fun _ => ?_)
      refine L_round ?_
      refine And.intro (fun h => by cases h) (fun h => ?_)
      exact Exists.intro _ (And.intro rfl (And.intro rfl (And.intro (More.refl H) rfl)))
    · refine And.intro (fun h => ?_) (fun _ => ?_)
      · exfalso
        have h : (((l.map Pr.enc).length : Int) != ((l.map Pr.enc).length : Int)) = true := h
        simp at h
      · refine L_mono (same_loop15 l s1 s2 hl cells l.length 0 H rfl) ?_
        rintro e env H' sl cl ⟨h3, rfl, rfl, rfl⟩
        exact Exists.intro _ (And.intro rfl (And.intro rfl (And.intro h3 rfl)))

noncomputable abbrev c19 : Code := at_ Try.f19 [true, true, false, true, false, false]
theorem same_loop19 (l : List Row) (s1 s2 : List AV) (hl : l.length < 4611686018427387904) (cells : Cl) : ∀ (m k : Nat) (H : Hp), l.length - k = m →
    L Try.prog K0 (K0.vars 19) 26 c19 [(0, .lst 39 (l.map Row.enc) s1), (1, .lst 39 (l.map Row.enc) s2), (5, .int .i64 (k : Int))] H [] cells
      fun e env H' sl cl => More H H' ∧ cl = cells ∧ e = .exit 0 ∧ sl = [] := by
  intro m
  induction m with
  | zero =>
    intro k H hn
    refine L_round ?_
    refine And.intro (fun h => ?_) (fun h => ?_)
    · exfalso
      have h := dec_true (p := (k : Int) < ((l.map Row.enc).length : Nat)) h
      rw [List.length_map] at h
      omega
    · exact And.intro (More.refl H) (And.intro rfl (And.intro rfl rfl))
  | succ m ih =>
    intro k H hn
    obtain ⟨r, hr⟩ : ∃ r, l[k]? = some r := ⟨l[k], List.getElem?_eq_getElem (by omega)⟩
    refine L_round ?_
    refine And.intro (fun h => ?_) (fun h => ?_)
    · clear h
      refine Exists.intro _ (And.intro rfl ?_)
      refine And.intro (Int.natCast_nonneg _) (Exists.intro _ (And.intro (get_row hr) ?_))
      refine And.intro (Int.natCast_nonneg _) (Exists.intro _ (And.intro (get_row hr) ?_))
      refine Exists.intro (.bool false) (And.intro (neq39 _ _ r) ?_)
      refine And.intro (fun h => by cases h) (fun _ => ?_)
      refine Exists.intro (.int .i64 ((k + 1 : Nat) : Int)) (And.intro (i64_eq (by omega) (by omega) (by omega)) ?_)
      exact ih (k + 1) H (by omega)
    · exfalso
      have h := dec_false (p := (k : Int) < ((l.map Row.enc).length : Nat)) h
      rw [List.length_map] at h
      omega
theorem same_spec19 {x y : AV} {l : List Row} (hx : IsL 39 x (l.map Row.enc)) (hy : IsL 39 y (l.map Row.enc)) (hl : l.length < 4611686018427387904) : Gv 19 [x, y] (.bool true) := by
  refine GivesR.one (gives_by Try.func19 rfl rfl rfl fun H cells => ?_)
  rcases hx with ⟨rfl, h1⟩ | ⟨s1, rfl⟩
  · rcases hy with ⟨rfl, h2⟩ | ⟨s2, rfl⟩
    · refine And.intro (fun h => by cases h) (fun _ => ?_)
      refine L_round ?_
      refine And.intro (fun h => by cases h) (fun h => ?_)
      exact Exists.intro _ (And.intro rfl (And.intro rfl (And.intro (More.refl H) rfl)))
    · obtain rfl : l = [] := List.map_eq_nil_iff.1 h1
      refine And.intro (fun h => by cases h) (fun _ => ?_)
      refine L_round ?_
      refine And.intro (fun h => by cases h) (fun h => ?_)
      exact Exists.intro _ (And.intro rfl (And.intro rfl (And.intro (More.refl H) rfl)))
  · rcases hy with ⟨rfl, h2⟩ | ⟨s2, rfl⟩
    · obtain rfl : l = [] := List.map_eq_nil_iff.1 h2
      refine And.intro (fun h => by cases h) (fun _ => ?_)
      refine L_round ?_
      refine And.intro (fun h => by cases h) (fun h => ?_)
      exact Exists.intro _ (And.intro rfl (And.intro rfl (And.intro (More.refl H) rfl)))
    · refine And.intro (fun h => ?_) (fun _ => ?_)
      · exfalso
        have h : (((l.map Row.enc).length : Int) != ((l.map Row.enc).length : Int)) = true := h
        simp at h
      · refine L_mono (same_loop19 l s1 s2 hl cells l.length 0 H rfl) ?_
        rintro e env H' sl cl ⟨h3, rfl, rfl, rfl⟩
        exact Exists.intro _ (And.intro rfl (And.intro rfl (And.intro h3 rfl)))
end Go.Proofs.Ytnajopkaepjncaa

/- A copy with a mark behind it; is it as it was? -/
namespace Go.Proofs.Ytnajopkaepjncaa
open Am
set_option linter.unusedVariables false
set_option maxRecDepth 8000

def markR : Row := ⟨[], 0, 77, []⟩
def ownA (l : List Row) : AV := .lst 39 (l.map Row.enc) [markR.enc]
theorem own_rows (l : List Row) : IsRows (ownA l) l := .inr ⟨_, rfl⟩
theorem rows_isL {x : AV} {l : List Row} (h : IsRows x l) : IsL 39 x (l.map Row.enc) := by
  rcases h with ⟨rfl, rfl⟩ | ⟨sp, rfl⟩
  · exact .inl ⟨rfl, rfl⟩
  · exact .inr ⟨sp, rfl⟩
theorem cut_own (xs : List AV) (m : AV) {n : Int} (hn : n = (xs.length : Int)) : sliceA Try.prog 22 (.lst 39 (xs ++ [m]) []) none (some (.int .i64 n)) none = some (.lst 39 xs [m]) := by
  subst hn
  have hu : Try.prog.underlying 22 = some (.slice 39) := Try.underlying22
  unfold sliceA
  rw [hu]
  have b2 : boundA (some (.int .i64 (xs.length : Int))) (xs ++ [m]).length ((xs ++ [m]).length + ([] : List AV).length) = some xs.length := by
    unfold boundA
    simp only [List.length_append, List.length_cons, List.length_nil]
    rw [if_pos (by omega)]; simp
  simp only [boundA, Option.isSome_none, Bool.false_and, Bool.false_eq_true, if_false]
  simp only [boundA] at b2
  rw [b2]
  have h1 : (xs ++ [m]).take (xs.length + 1) = xs ++ [m] := List.take_of_length_le (by simp)
  simp [h1]
theorem cut_more (xs : List AV) (m : AV) {n : Int} (hn : n = ((xs.length + 1 : Nat) : Int)) : sliceA Try.prog 22 (.lst 39 xs [m]) none (some (.int .i64 n)) none = some (.lst 39 (xs ++ [m]) []) := by
  subst hn
  have hu : Try.prog.underlying 22 = some (.slice 39) := Try.underlying22
  unfold sliceA
  rw [hu]
  have b2 : boundA (some (.int .i64 ((xs.length + 1 : Nat) : Int))) xs.length (xs.length + [m].length) = some (xs.length + 1) := by
    unfold boundA
    simp only [List.length_cons, List.length_nil]
    rw [if_pos (by omega)]; simp
  simp only [boundA, Option.isSome_none, Bool.false_and, Bool.false_eq_true, if_false]
  simp only [boundA] at b2
  rw [b2]
  have h1 : (xs ++ [m]).take (xs.length + 1) = xs ++ [m] := List.take_of_length_le (by simp)
  simp [h1]

theorem own_spec {x : AV} {l : List Row} (hx : IsRows x l) (hl : l.length < 1048576) : Gv 12 [x] (ownA l) := by
  refine GivesR.one (gives_by Try.func12 rfl rfl rfl fun H cells => ?_)
  rcases hx with ⟨rfl, rfl⟩ | ⟨sp, rfl⟩
  · refine Exists.intro _ (And.intro rfl ?_)
    refine And.intro rfl (And.intro rfl (And.intro (Nat.le_of_ble_eq_true rfl) (And.intro (Nat.le_of_ble_eq_true rfl) (And.intro (Nat.le_of_ble_eq_true rfl) (And.intro rfl (Exists.intro (([] : List Row).map Row.enc) (And.intro rfl ?_)))))))
    refine Exists.intro _ (And.intro rfl ?_)
    refine And.intro rfl (And.intro rfl (And.intro (Nat.le_of_ble_eq_true rfl) (And.intro (Nat.le_of_ble_eq_true rfl) (And.intro (Nat.le_of_ble_eq_true rfl) (And.intro rfl (Exists.intro (([] : List Row).map Row.enc ++ [markR.enc]) (And.intro rfl ?_)))))))
    refine Exists.intro _ (And.intro (cut_own _ _ rfl) ?_)
    exact Exists.intro _ (And.intro rfl (And.intro rfl (And.intro (More.refl H) rfl)))
  · refine Exists.intro _ (And.intro rfl ?_)
    refine And.intro rfl (And.intro rfl (And.intro (?_ : (0 + (l.map Row.enc).length) * 48 ≤ 140737488355328) (And.intro (?_ : 0 + (l.map Row.enc).length ≤ 140737488355328) (And.intro (Nat.le_of_ble_eq_true rfl) (And.intro rfl (Exists.intro (l.map Row.enc) (And.intro rfl ?_)))))))
    · rw [List.length_map]; omega
    · rw [List.length_map]; omega
    refine Exists.intro _ (And.intro rfl ?_)
    refine And.intro rfl (And.intro rfl (And.intro (?_ : ((l.map Row.enc).length + 1) * 48 ≤ 140737488355328) (And.intro (?_ : (l.map Row.enc).length + 1 ≤ 140737488355328) (And.intro (Nat.le_of_ble_eq_true rfl) (And.intro rfl (Exists.intro (l.map Row.enc ++ [markR.enc]) (And.intro rfl ?_)))))))
    · rw [List.length_map]; omega
    · rw [List.length_map]; omega
    refine Exists.intro _ (And.intro (cut_own _ _ rfl) ?_)
    exact Exists.intro _ (And.intro rfl (And.intro rfl (And.intro (More.refl H) rfl)))

theorem kept_spec {y : AV} {l : List Row} (hy : IsRows y l) (hl : l.length < 1048576) : Gv 16 [ownA l, y] (.bool true) := by
  refine GivesR.one (gives_by Try.func16 rfl rfl rfl fun H cells => ?_)
  obtain ⟨E, hE⟩ := same_spec19 (rows_isL (own_rows l)) (rows_isL hy) (by omega) H cells
  rcases hy with ⟨rfl, rfl⟩ | ⟨sp, rfl⟩
  · refine And.intro rfl (Exists.intro _ (Exists.intro _ (Exists.intro _ (And.intro hE ?_))))
    refine And.intro (fun _ => ?_) (fun h => by cases h)
    refine Exists.intro (.int .i64 ((0 + 1 : Nat) : Int)) (And.intro (i64_eq (by omega) (by omega) (by omega)) ?_)
    refine Exists.intro _ (And.intro (cut_more [] markR.enc rfl) ?_)
    refine And.intro (Int.le_refl _) (Exists.intro markR.enc (And.intro rfl ?_))
    exact Exists.intro _ (And.intro rfl (And.intro rfl (And.intro (More.app H E) rfl)))
  · refine And.intro rfl (Exists.intro _ (Exists.intro _ (Exists.intro _ (And.intro hE ?_))))
    refine And.intro (fun _ => ?_) (fun h => by cases h)
    refine Exists.intro (.int .i64 (((l.map Row.enc).length + 1 : Nat) : Int)) (And.intro (i64_eq (by omega) (by rw [List.length_map]; omega) (by rw [List.length_map]; omega)) ?_)
    refine Exists.intro _ (And.intro (cut_more (l.map Row.enc) markR.enc rfl) ?_)
    refine And.intro (Int.natCast_nonneg _) (Exists.intro markR.enc (And.intro (by simp) ?_))
    exact Exists.intro _ (And.intro rfl (And.intro rfl (And.intro (More.app H E) rfl)))
end Go.Proofs.Ytnajopkaepjncaa

/- What rows have at a number is what the document says: the plain law. -/
namespace Go.Proofs.Ytnajopkaepjncaa
open Am
set_option linter.unusedVariables false
set_option linter.unusedSimpArgs false

theorem less_irrefl : ∀ l : List UInt8, Op.bytesLess l l = false
  | [] => rfl
  | a :: r => by
    unfold Op.bytesLess
    have h : ¬ (a < a) := by intro h; exact absurd h (UInt8.lt_irrefl a)
    simp [less_irrefl r, h]
theorem less_trans : ∀ {a b c : List UInt8}, Op.bytesLess a b = true → Op.bytesLess b c = true → Op.bytesLess a c = true
  | [], [], _, h, _ => by simp [Op.bytesLess] at h
  | [], _ :: _, [], _, h => by simp [Op.bytesLess] at h
  | [], _ :: _, _ :: _, _, _ => rfl
  | _ :: _, [], _, h, _ => by simp [Op.bytesLess] at h
  | _ :: _, _ :: _, [], _, h => by simp [Op.bytesLess] at h
  | x :: a, y :: b, z :: c, h, k => by
    unfold Op.bytesLess at h k ⊢
    simp only [Bool.or_eq_true, decide_eq_true_eq, Bool.and_eq_true, beq_iff_eq] at h k ⊢
    rcases h with h | ⟨rfl, h⟩
    · rcases k with k | ⟨rfl, k⟩
      · exact .inl (UInt8.lt_trans h k)
      · exact .inl h
    · rcases k with k | ⟨rfl, k⟩
      · exact .inl k
      · exact .inr ⟨rfl, less_trans h k⟩

/-- Next to each other, rows in order are in order. -/
theorem order_next {l : List Row} (h : orderP l = true) {i : Nat} {a b : Row} (ha : l[i]? = some a) (hb : l[i + 1]? = some b) : aheadP a b.key b.seq = true := by
  have key : ∀ (n k : Nat), orderFrom l n k = true → k ≤ i → i < k + n → aheadP a b.key b.seq = true := by
    intro n
    induction n with
    | zero => intro k _ h1 h2; omega
    | succ n ih =>
      intro k h h1 h2
      simp only [orderFrom] at h
      by_cases hk : k = i
      · subst hk
        rw [ha, hb] at h
        simp only at h
        cases hc : aheadP a b.key b.seq with
        | true => rfl
        | false => rw [hc] at h; simp at h
      · have hi : i < l.length := (List.getElem?_eq_some_iff.1 ha).1
        rw [List.getElem?_eq_getElem (by omega : k < l.length), List.getElem?_eq_getElem (by omega : k + 1 < l.length)] at h
        simp only at h
        split at h
        · exact ih (k + 1) h (by omega) (by omega)
        · cases h
  have hlt : i + 1 < l.length := (List.getElem?_eq_some_iff.1 hb).1
  exact key (l.length - 1) 0 h (Nat.zero_le _) (by omega)
theorem order_seq {l : List Row} (h : orderP l = true) {i : Nat} {a b : Row} (ha : l[i]? = some a) (hb : l[i + 1]? = some b) (hk : a.key = b.key) : b.seq < a.seq := by
  have := order_next h ha hb
  unfold aheadP at this
  rw [hk, less_irrefl] at this
  simpa using this

theorem find_is (p : Row → Bool) (l : List Row) : ∀ (n k : Nat), l.length - k = n → (findAt p l n k = -1 ∧ (l.drop k).find? p = none) ∨ ∃ (j : Nat) (r : Row), findAt p l n k = (j : Int) ∧ l[j]? = some r ∧ (l.drop k).find? p = some r := by
  intro n
  induction n with
  | zero =>
    intro k hn
    refine .inl ⟨rfl, ?_⟩
    rw [List.drop_eq_nil_of_le (by omega)]; rfl
  | succ n ih =>
    intro k hn
    have hk : k < l.length := by omega
    simp only [findAt]
    rw [List.getElem?_eq_getElem hk, List.drop_eq_getElem_cons hk]
    simp only [List.find?_cons]
    cases hp : p l[k] with
    | true => exact .inr ⟨k, l[k], rfl, List.getElem?_eq_getElem hk, rfl⟩
    | false => exact ih (k + 1) (by omega)

def seenR (run : List Row) (n : Int) : Option Row := run.find? fun r => decide (r.seq ≤ n)
def putR : Option Row → Option Pr
  | some r => match r.kind == 1 with
    | true => some ⟨r.key, r.val⟩
    | false => none
  | none => none
theorem pick_is (run : List Row) (n : Int) : pickP run n = putR (seenR run n) := by
  unfold pickP seenR seenP
  rcases find_is (fun r => decide (r.seq ≤ n)) run run.length 0 rfl with ⟨h1, h2⟩ | ⟨j, r, h1, h2, h3⟩
  · rw [h1]
    rw [List.drop_zero] at h2
    rw [h2]
    rfl
  · rw [h1]
    rw [List.drop_zero] at h3
    rw [h3]
    have : decide ((j : Int) ≥ 0) = true := by simp
    rw [this]
    simp only [Int.toNat_natCast, h2]
    rfl

theorem at_is (rs : List (List Row)) (n : Int) : ∀ (m k : Nat) (out : List Pr), rs.length - k = m → atFrom rs n m k out = out ++ (rs.drop k).filterMap (pickP · n) := by
  intro m
  induction m with
  | zero =>
    intro k out h
    rw [List.drop_eq_nil_of_le (by omega)]
    simp [atFrom]
  | succ m ih =>
    intro k out h
    have hk : k < rs.length := by omega
    simp only [atFrom]
    rw [List.getElem?_eq_getElem hk, List.drop_eq_getElem_cons hk]
    simp only [List.filterMap_cons]
    cases hp : pickP rs[k] n with
    | none => exact ih (k + 1) out (by omega)
    | some p =>
      simp only
      rw [ih (k + 1) _ (by omega)]
      simp
theorem runs_out (l : List Row) : ∀ (m i fr : Nat) (out : List (List Row)), runsFrom l m i fr out = out ++ runsFrom l m i fr [] := by
  intro m
  induction m with
  | zero => intro i fr out; simp [runsFrom]
  | succ m ih =>
    intro i fr out
    simp only [runsFrom]
    cases endAt l i with
    | true => simp only; rw [ih _ _ (out ++ _), ih _ _ ([] ++ _)]; simp
    | false => simp only; exact ih _ _ out
theorem ref_out (l : List Row) (n : Int) : ∀ (m i : Nat) (out : List Pr), refFrom l n m i out = out ++ refFrom l n m i [] := by
  intro m
  induction m with
  | zero => intro i out; simp [refFrom]
  | succ m ih =>
    intro i out
    simp only [refFrom]
    cases l[i]? with
    | none => simp
    | some r =>
      simp only
      cases (seesP l i n && (r.kind == 1)) with
      | true => simp only; rw [ih _ (out ++ _), ih _ ([] ++ _)]; simp
      | false => simp only; exact ih _ out

theorem take_one {l : List Row} {fr i : Nat} {a : Row} (h : fr ≤ i) (ha : l[i]? = some a) : (l.take (i + 1)).drop fr = (l.take i).drop fr ++ [a] := by
  have hlt : i < l.length := (List.getElem?_eq_some_iff.1 ha).1
  have e : l.take (i + 1) = l.take i ++ [a] := by rw [List.take_add_one, ha]; rfl
  rw [e, List.drop_append_of_le_length (by rw [List.length_take]; omega)]

theorem runs_at {l : List Row} (ho : orderP l = true) (n : Int) : ∀ (m i fr : Nat), l.length - i = m → fr ≤ i → (i = fr → i = 0 ∨ ∀ a b, l[i - 1]? = some a → l[i]? = some b → a.key ≠ b.key) → (fr < i → ∀ a b, l[i - 1]? = some a → l[i]? = some b → a.key = b.key) →
    (seenR ((l.take i).drop fr) n = none → (runsFrom l m i fr []).filterMap (pickP · n) = refFrom l n m i []) ∧
    (∀ r, seenR ((l.take i).drop fr) n = some r → i < l.length → (∀ a, l[i - 1]? = some a → a.seq ≤ n) → (runsFrom l m i fr []).filterMap (pickP · n) = (putR (some r)).toList ++ refFrom l n m i []) := by
  intro m
  induction m with
  | zero =>
    intro i fr hm hfr h1 h2
    exact ⟨fun _ => rfl, fun r _ hlt => by omega⟩
  | succ m ih =>
    intro i fr hm hfr h1 h2
    have hi : i < l.length := by omega
    have hm1 : l.length - (i + 1) = m := by omega
    obtain ⟨a, ha⟩ : ∃ a, l[i]? = some a := ⟨l[i], List.getElem?_eq_getElem hi⟩
    -- the row ahead, in the same run
    have hprev : fr < i → ∃ b, l[i - 1]? = some b ∧ b.key = a.key ∧ a.seq < b.seq := by
      intro h
      obtain ⟨b, hb⟩ : ∃ b, l[i - 1]? = some b := ⟨l[i - 1], List.getElem?_eq_getElem (by omega)⟩
      have hk := h2 h b a hb ha
      exact ⟨b, hb, hk, order_seq ho hb (by rw [Nat.sub_add_cancel (by omega)]; exact ha) hk⟩
    have hcat := take_one hfr ha
    have hseen : seenR ((l.take (i + 1)).drop fr) n = (match seenR ((l.take i).drop fr) n with
      | some r => some r
      | none => if a.seq ≤ n then some a else none) := by
      rw [hcat]
      unfold seenR
      rw [List.find?_append]
      cases h : List.find? (fun r => decide (r.seq ≤ n)) ((l.take i).drop fr) with
      | some r => rfl
      | none =>
        simp only [Option.none_or, List.find?_cons, List.find?_nil]
        by_cases h : a.seq ≤ n <;> simp [h]
    -- what the document sees here
    have hsee0 : seenR ((l.take i).drop fr) n = none → seesP l i n = decide (a.seq ≤ n) := by
      intro h
      unfold seesP
      rw [ha]
      simp only
      by_cases hfi : fr < i
      · obtain ⟨b, hb, hk, _⟩ := hprev hfi
        have hbn : ¬ b.seq ≤ n := by
          intro hbn
          unfold seenR at h
          have hmem : b ∈ (l.take i).drop fr := by
            refine List.mem_of_getElem? (i := i - 1 - fr) ?_
            rw [List.getElem?_drop, List.getElem?_take, if_pos (by omega)]
            rw [show fr + (i - 1 - fr) = i - 1 by omega]
            exact hb
          have := List.find?_eq_none.1 h b hmem
          simp [hbn] at this
        rw [hb]
        have : decide (b.seq > n) = true := by simp; omega
        simp [this]
      · have : i = fr := by omega
        rcases h1 this with h0 | h0
        · simp [h0]
        · by_cases hz : i = 0
          · simp [hz]
          · obtain ⟨b, hb⟩ : ∃ b, l[i - 1]? = some b := ⟨l[i - 1], List.getElem?_eq_getElem (by omega)⟩
            rw [hb]
            have := h0 b a hb ha
            simp [this]
    have hsee1 : ∀ r, seenR ((l.take i).drop fr) n = some r → (∀ a, l[i - 1]? = some a → a.seq ≤ n) → seesP l i n = false := by
      intro r h hp
      have hfi : fr < i := by
        rcases Nat.lt_or_ge fr i with h' | h'
        · exact h'
        · rw [List.drop_eq_nil_of_le (by rw [List.length_take]; omega)] at h; cases h
      obtain ⟨b, hb, hk, _⟩ := hprev hfi
      have := hp b hb
      unfold seesP
      rw [ha]
      simp only
      rw [hb]
      have e1 : (i == 0) = false := by rw [beq_eq_false_iff_ne]; omega
      have e2 : decide (b.seq > n) = false := by simp; omega
      simp [e1, e2, hk]
    have href : refFrom l n (m + 1) i [] = (match seesP l i n with
      | true => (putR (some a)).toList
      | false => []) ++ refFrom l n m (i + 1) [] := by
      simp only [refFrom, ha]
      cases seesP l i n with
      | false => simp
      | true =>
        simp only [Bool.true_and, putR]
        cases hk : (a.kind == 1) with
        | true => simp only; rw [ref_out]; simp
        | false => simp
    simp only [runsFrom]
    cases he : endAt l i with
    | true =>
      simp only [List.nil_append]
      rw [runs_out]
      rw [List.filterMap_append]
      have hstart : i + 1 = 0 ∨ ∀ b c, l[i + 1 - 1]? = some b → l[i + 1]? = some c → b.key ≠ c.key := by
        refine .inr fun b c hb hc => ?_
        rw [Nat.add_sub_cancel, ha] at hb
        injection hb with hb; subst hb
        unfold endAt at he
        rw [ha, hc] at he
        simp only at he
        intro e
        rw [e] at he
        simp at he
      have hnext := (ih (i + 1) (i + 1) hm1 (Nat.le_refl _) (fun _ => hstart) (fun h => by omega)).1 (by
        rw [List.drop_eq_nil_of_le (by rw [List.length_take]; omega)]; rfl)
      rw [hnext, href]
      have hone : List.filterMap (fun x => pickP x n) [(l.take (i + 1)).drop fr] = (putR (seenR ((l.take (i + 1)).drop fr) n)).toList := by
        simp only [List.filterMap_cons, List.filterMap_nil, pick_is]
        cases putR (seenR ((l.take (i + 1)).drop fr) n) <;> rfl
      rw [hone, hseen]
      refine ⟨fun h => ?_, fun r h _ hp => ?_⟩
      · rw [h, hsee0 h]
        by_cases hs : a.seq ≤ n
        · simp [hs]
        · simp [hs, putR]
      · rw [h, hsee1 r h hp]
        simp
    | false =>
      simp only
      obtain ⟨b, hb⟩ : ∃ b, l[i + 1]? = some b := by
        unfold endAt at he
        rw [ha] at he
        cases hb : l[i + 1]? with
        | none => rw [hb] at he; simp at he
        | some b => exact ⟨b, rfl⟩
      have hab : a.key = b.key := by
        unfold endAt at he
        rw [ha, hb] at he
        simp only [Bool.not_eq_false', beq_iff_eq] at he
        exact he.symm
      have hi1 : i + 1 < l.length := (List.getElem?_eq_some_iff.1 hb).1
      obtain ⟨n1, n2⟩ := ih (i + 1) fr hm1 (by omega) (fun h => by omega) (fun _ c d hc hd => by
        rw [Nat.add_sub_cancel, ha] at hc; injection hc with hc; subst hc
        rw [hb] at hd; injection hd with hd; subst hd
        exact hab)
      rw [href]
      refine ⟨fun h => ?_, fun r h _ hp => ?_⟩
      · rw [hsee0 h]
        rw [h] at hseen
        by_cases hs : a.seq ≤ n
        · rw [if_pos hs] at hseen
          rw [n2 a hseen hi1 (fun c hc => by rw [Nat.add_sub_cancel, ha] at hc; injection hc with hc; subst hc; exact hs)]
          simp [hs]
        · rw [if_neg hs] at hseen
          rw [n1 hseen]
          simp [hs]
      · rw [hsee1 r h hp]
        rw [h] at hseen
        have hfi : fr < i := by
          rcases Nat.lt_or_ge fr i with h' | h'
          · exact h'
          · rw [List.drop_eq_nil_of_le (by rw [List.length_take]; omega)] at h; cases h
        obtain ⟨b', hb', hk', hs'⟩ := hprev hfi
        have := hp b' hb'
        rw [n2 r hseen hi1 (fun c hc => by rw [Nat.add_sub_cancel, ha] at hc; injection hc with hc; subst hc; omega)]
        simp

theorem at_law {l : List Row} (ho : orderP l = true) (n : Int) : atP l n = refFrom l n l.length 0 [] := by
  unfold atP
  rw [at_is (runsP l) n (runsP l).length 0 [] rfl, List.drop_zero, List.nil_append]
  exact (runs_at ho n l.length 0 0 rfl (Nat.le_refl _) (fun _ => .inl rfl) (fun h => by omega)).1 rfl
theorem atA_is (l : List Row) (n : Int) : atA l n = refA l n := by
  unfold atA refA
  cases h : orderP l with
  | true => simp only; rw [at_law h]
  | false => rfl
end Go.Proofs.Ytnajopkaepjncaa
