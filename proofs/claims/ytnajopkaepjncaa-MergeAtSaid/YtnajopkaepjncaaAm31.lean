/- Readings of arguments, as the abstract machine's values. -/
import Derived.Test.YtnajopkaepjncaaAm30
import GoSem.ClaimChange
namespace Go.Proofs.Ytnajopkaepjncaa.Am
set_option linter.unusedVariables false
set_option linter.unusedSimpArgs false

/-- The types of what comes in: their cells. -/
inductive Ty where
  | bool
  | int (k : IntKind)
  | str
  | slice (e : TypeId) (agg : Bool) (t : Ty)
  | unit
  | pair (a b : Ty)
def Ty.size : Ty → Nat
  | .bool => 1
  | .int _ => 1
  | .str => 1
  | .slice _ _ _ => 1
  | .unit => 0
  | .pair a b => a.size + b.size
def Ty.single : Ty → Bool
  | .unit => false
  | .pair _ _ => false
  | _ => true
def Ty.den : Ty → Type
  | .bool => Bool
  | .int k => { n : Int // (Lit.int k n).wf = true }
  | .str => { s : List UInt8 // s.length ≤ maxLen }
  | .slice _ _ t => Option { p : List t.den × List t.den // p.1.length + p.2.length ≤ maxLen }
  | .unit => Unit
  | .pair a b => a.den × b.den
def elt (agg : Bool) (cs : List AV) : AV :=
  match agg with
  | true => .agg cs
  | false => cs.headD .undef
def Ty.enc : (t : Ty) → t.den → List AV
  | .bool, b => [.bool b]
  | .int k, n => [.int k n.1]
  | .str, s => [.str s.1]
  | .slice e agg t, none => [.nils]
  | .slice e agg t, some p => [.lst e (p.1.1.map fun d => elt agg (t.enc d)) (p.1.2.map fun d => elt agg (t.enc d))]
  | .unit, _ => []
  | .pair a b, d => a.enc d.1 ++ b.enc d.2

def tyFields (f : TypeId → Option Ty) (P : Program) : List Field → Nat → Option Ty
  | [], _ => some .unit
  | fd :: r, off => match f fd.type with
    | some t => if fd.offset = off ∧ P.cellsOf fd.type = t.size then (tyFields f P r (off + t.size)).map (.pair t) else none
    | none => none
def tyOf (P : Program) : Nat → TypeId → Option Ty
  | 0, _ => none
  | n + 1, t => match P.underlying t with
    | some .bool => some .bool
    | some (.int k) => some (.int k)
    | some .string => some .str
    | some (.slice e) => match tyOf P n e, isAggT P e, sizeT P e with
      | some te, some agg, some sz => if sz = te.size ∧ 0 < sz ∧ (agg || te.single) = true then some (.slice e agg te) else none
      | _, _, _ => none
    | some (.struct fs) => match tyFields (tyOf P n) P fs.toList 0 with
      | some T => if P.cellsOf t = T.size then some T else none
      | none => none
    | _ => none

section
variable {P : Program} {w : World} {M : Mem}

/-- Cells that stand for values. -/
structure CR (P : Program) (M : Mem) (xs : List AV) (cs : List Value) : Prop where
  len : xs.length = cs.length
  rep : ∀ i, i < xs.length → Rep P M (xs.getD i .undef) (cs.getD i undef)
  one : ∀ i, i < xs.length → (cs.getD i undef).oneCell' = true
theorem CR.nil : CR P M [] [] := ⟨rfl, fun i h => by simp at h, fun i h => by simp at h⟩
theorem CR.single {x : AV} {v : Value} (r : Rep P M x v) (h : v.oneCell' = true) : CR P M [x] [v] :=
  ⟨rfl, fun i hi => by obtain rfl : i = 0 := by simpa using hi
                       exact r, fun i hi => by obtain rfl : i = 0 := by simpa using hi
                                               exact h⟩
theorem CR.append {xs ys : List AV} {cs ds : List Value} (h : CR P M xs cs) (k : CR P M ys ds) : CR P M (xs ++ ys) (cs ++ ds) := by
  refine ⟨by rw [List.length_append, List.length_append, h.len, k.len], ?_, ?_⟩
  · intro i hi
    rw [List.length_append] at hi
    simp only [List.getD_eq_getElem?_getD]
    by_cases hl : i < xs.length
    · rw [List.getElem?_append_left hl, List.getElem?_append_left (by rw [← h.len]; exact hl)]
      have := h.rep i hl
      simpa only [List.getD_eq_getElem?_getD] using this
    · rw [List.getElem?_append_right (by omega), List.getElem?_append_right (by rw [← h.len]; omega), ← h.len]
      have := k.rep (i - xs.length) (by omega)
      simpa only [List.getD_eq_getElem?_getD] using this
  · intro i hi
    rw [List.length_append] at hi
    simp only [List.getD_eq_getElem?_getD]
    by_cases hl : i < xs.length
    · rw [List.getElem?_append_left (by rw [← h.len]; exact hl)]
      have := h.one i hl
      simpa only [List.getD_eq_getElem?_getD] using this
    · rw [List.getElem?_append_right (by rw [← h.len]; omega), ← h.len]
      have := k.one (i - xs.length) (by omega)
      simpa only [List.getD_eq_getElem?_getD] using this

theorem enc_len : ∀ (t : Ty) (d : t.den), (t.enc d).length = t.size
  | .bool, _ => rfl
  | .int _, _ => rfl
  | .str, _ => rfl
  | .slice _ _ _, none => rfl
  | .slice _ _ _, some _ => rfl
  | .unit, _ => rfl
  | .pair a b, d => by simp only [Ty.enc, Ty.size, List.length_append, enc_len a d.1, enc_len b d.2]
theorem enc_one : ∀ (t : Ty) (d : t.den), t.single = true → ∃ x, t.enc d = [x] ∧ x.cells = [x]
  | .bool, _, _ => ⟨_, rfl, rfl⟩
  | .int _, _, _ => ⟨_, rfl, rfl⟩
  | .str, _, _ => ⟨_, rfl, rfl⟩
  | .slice _ _ _, none, _ => ⟨_, rfl, rfl⟩
  | .slice _ _ _, some _, _ => ⟨_, rfl, rfl⟩
  | .unit, _, h => by cases h
  | .pair a b, d, h => by cases h
theorem elt_cells {agg : Bool} {t : Ty} (h : (agg || t.single) = true) (d : t.den) : (elt agg (t.enc d)).cells = t.enc d := by
  cases agg with
  | true => rfl
  | false =>
    obtain ⟨x, h1, h2⟩ := enc_one t d (by simpa using h)
    rw [h1]; exact h2

theorem cells_at {a : Addr} {n : Nat} {cs : List Value} (h : w.cells? 0 a n = some cs) : cs.length = n ∧ ∀ j, j < n → w.cell? (a.add j) = some (cs.getD j undef) := by
  unfold World.cells? at h
  rw [if_pos (Nat.zero_le _)] at h
  have key : ∀ (l : List Nat) (ys : List Value), l.mapM (fun i => w.cell? (a.add i)) = some ys → ys.length = l.length ∧ ∀ i k, l[i]? = some k → w.cell? (a.add k) = some (ys.getD i undef) := by
    intro l
    induction l with
    | nil => intro ys h; simp at h; subst h; exact ⟨rfl, fun i k h => by simp at h⟩
    | cons x r ih =>
      intro ys h
      rw [List.mapM_cons] at h
      cases hx : w.cell? (a.add x) with
      | none => simp [hx] at h
      | some v =>
        cases hr : r.mapM (fun i => w.cell? (a.add i)) with
        | none => simp [hx, hr] at h
        | some vs =>
          simp [hx, hr] at h; subst h
          obtain ⟨h1, h2⟩ := ih vs hr
          refine ⟨by simp [h1], fun i k hi => ?_⟩
          cases i with
          | zero => simp at hi; subst hi; simpa using hx
          | succ i => simp at hi; simpa using h2 i k hi
  obtain ⟨h1, h2⟩ := key _ _ h
  rw [List.length_range] at h1
  exact ⟨h1, fun j hj => h2 j j (by rw [List.getElem?_range hj])⟩
theorem cell_plain {a : Addr} {v : Value} (h : w.cell? a = some v) : a = ⟨a.block, a.off, none⟩ := by
  unfold World.cell? at h
  split at h
  · split at h
    · cases h
    · rename_i hs
      obtain ⟨b, o, s⟩ := a
      cases s with
      | none => rfl
      | some x => simp at hs
  · cases h
theorem add_plain (b o n : Nat) : (Addr.add ⟨b, o, none⟩ n) = ⟨b, o + n, none⟩ := by
  unfold Addr.add
  split
  · rename_i h; rw [h]; rfl
  · rfl

end
end Go.Proofs.Ytnajopkaepjncaa.Am
