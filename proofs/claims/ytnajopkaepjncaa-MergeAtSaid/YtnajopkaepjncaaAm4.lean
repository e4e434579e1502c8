/- The abstract machine is right, first part: the operations that neither read nor write cells. -/
import Derived.Test.YtnajopkaepjncaaAm3
import Derived.ChangeKeysEq
namespace Go.Proofs.Ytnajopkaepjncaa.Am
set_option linter.unusedVariables false
set_option linter.unusedSimpArgs false
open Go.RowKit

section
variable {P : Program} {M : Mem} {w : World}

structure CellsRep (P : Program) (M : Mem) (cs : List AV) (vs : Array Value) : Prop where
  size : vs.size = cs.length
  at_ : ∀ i, i < cs.length → Rep P M (cs.getD i .undef) (vs.getD i undef)
  one : ∀ i, i < cs.length → (vs.getD i undef).oneCell' = true

theorem cells_of {x : AV} {v : Value} (r : Rep P M x v) (h : 0 < x.cells.length) : CellsRep P M x.cells v.cells :=
  ⟨r.cells_size h, fun i hi => (r.cells_at i hi).1, fun i hi => (r.cells_at i hi).2⟩

theorem run_underlying' {t : TypeId} {d : TypeDesc} (h : P.underlying t = some d) : (underlying t).run P w = .ok d w := run_underlying h w
theorem run_sizeT {t : TypeId} {n : Nat} (h : sizeT P t = some n) : (sizeOf t).run P w = .ok n w := by
  unfold sizeT at h
  cases hi : P.info? t with
  | none => simp [hi] at h
  | some i =>
    simp only [hi, Option.map_some, Option.some.injEq] at h
    simp only [sizeOf, typeInfo, Sem.run_bind, run_program, Result.andThen_ok, hi, Sem.run_pure, h]
theorem run_isAggT {t : TypeId} {b : Bool} (h : isAggT P t = some b) : (isAgg t).run P w = .ok b w := by
  unfold isAggT at h
  unfold isAgg
  cases hu : P.underlying t with
  | none => simp [hu] at h
  | some d =>
    simp only [Sem.run_bind, run_underlying' hu, Result.andThen_ok]
    rw [hu] at h
    cases d <;> simp at h <;> subst h <;> rfl
theorem run_typeInfo' {t : TypeId} {i : TypeInfo} (h : P.info? t = some i) : (typeInfo t).run P w = .ok i w := by
  simp only [typeInfo, Sem.run_bind, run_program, Result.andThen_ok, h, Sem.run_pure]

theorem getD_extract (vs : Array Value) (i j k : Nat) (h : i + k < j) (hj : j ≤ vs.size) : (vs.extract i j).getD k undef = vs.getD (i + k) undef := by
  simp only [Array.getD_eq_getD_getElem?, Array.getElem?_extract]
  rw [if_pos (by omega)]
theorem getD_drop_take (cs : List AV) (i n k : Nat) (h : k < n) : ((cs.drop i).take n).getD k .undef = cs.getD (i + k) .undef := by
  simp only [List.getD_eq_getElem?_getD, List.getElem?_take, h, if_true, List.getElem?_drop]

theorem CellsRep.sub {cs : List AV} {vs : Array Value} (h : CellsRep P M cs vs) (off n : Nat) (hn : off + n ≤ cs.length) :
    CellsRep P M ((cs.drop off).take n) (vs.extract off (off + n)) := by
  have hl : ((cs.drop off).take n).length = n := by simp; omega
  refine ⟨by rw [hl, Array.size_extract, h.size]; omega, ?_, ?_⟩ <;> intro i hi <;> rw [hl] at hi <;> rw [getD_extract _ _ _ _ (by omega) (by rw [h.size]; exact hn)]
  · rw [getD_drop_take _ _ _ _ hi]; exact h.at_ _ (by omega)
  · exact h.one _ (by omega)

theorem part_sound {t : TypeId} {cs : List AV} {vs : Array Value} {off : Nat} {x : AV} (h : partA P t cs off = some x) (hc : CellsRep P M cs vs) :
    ∃ v, (part t vs off).run P w = .ok v w ∧ Rep P M x v := by
  unfold partA at h
  split at h
  · rename_i n hg hn
    split at h
    · rename_i hle
      injection h with h; subst h
      refine ⟨.agg (vs.extract off (off + n)), ?_, ?_⟩
      · simp only [part, Sem.run_bind, run_isAggT hg, Result.andThen_ok, if_true, run_sizeT hn, Sem.run_pure]
      · have := hc.sub off n hle
        exact .agg _ _ this.size this.at_ this.one
    · cases h
  · rename_i n hg hn
    have hlt : off < cs.length := by
      rcases Nat.lt_or_ge off cs.length with hlt | hge
      · exact hlt
      · rw [List.getElem?_eq_none hge] at h; cases h
    have hv : off < vs.size := by rw [hc.size]; exact hlt
    refine ⟨vs.getD off undef, ?_, ?_⟩
    · simp only [part, Sem.run_bind, run_isAggT hg, Result.andThen_ok, Bool.false_eq_true, if_false, Array.getElem?_eq_getElem hv, Sem.run_pure, Array.getD_eq_getD_getElem?, Option.getD_some]
    · have := hc.at_ off hlt
      rw [List.getD_eq_getElem?_getD, h, Option.getD_some] at this
      exact this
  · cases h

theorem agg_inv {cs : List AV} {v : Value} (r : Rep P M (.agg cs) v) : ∃ vs, v = .agg vs ∧ CellsRep P M cs vs := by
  cases r with
  | agg _ vs hl h h1 => exact ⟨vs, rfl, ⟨hl, h, h1⟩⟩
theorem int_inv {k : IntKind} {n : Int} {v : Value} (r : Rep P M (.int k n) v) : v = .int k n := by cases r; rfl
theorem bool_inv {b : Bool} {v : Value} (r : Rep P M (.bool b) v) : v = .bool b := by cases r; rfl
theorem str_inv {s : List UInt8} {v : Value} (r : Rep P M (.str s) v) : v = .string ⟨⟨s⟩⟩ := by cases r; rfl

/-! ### equality -/
theorem bytes_beq (a b : List UInt8) : ((⟨⟨a⟩⟩ : ByteArray) == ⟨⟨b⟩⟩) = (a == b) := by
  rw [Bool.eq_iff_iff]
  show ((⟨a⟩ : Array UInt8) == ⟨b⟩) = true ↔ _
  simp
theorem eqFields_sound {f : TypeId → AV → AV → Option Bool} {g : TypeId → Value → Value → Sem Bool}
    (hf : ∀ t x y v u r, f t x y = some r → Rep P M x v → Rep P M y u → (g t v u).run P w = .ok r w) :
    ∀ (fs : List Field) (xs ys : List AV) (vs us : Array Value) (r : Bool), eqFields f P fs xs ys = some r → CellsRep P M xs vs → CellsRep P M ys us →
      ((do
        for fd in fs do
          if fd.name ≠ "_" then
            if !(← g fd.type (← part fd.type vs fd.offset) (← part fd.type us fd.offset)) then return false
        pure true) : Sem Bool).run P w = .ok r w := by
  intro fs
  induction fs with
  | nil => intro xs ys vs us r h _ _; simp [eqFields] at h; subst h; rfl
  | cons fd rest ih =>
    intro xs ys vs us r h hx hy
    have ih' := ih xs ys vs us r
    simp only [eqFields] at h
    by_cases hn : fd.name = "_"
    · rw [if_pos hn] at h
      have := ih' h hx hy
      simpa [hn] using this
    · rw [if_neg hn] at h
      split at h
      · rename_i x y hpx hpy
        obtain ⟨v, hv, rv⟩ := part_sound (w := w) hpx hx
        obtain ⟨u, hu, ru⟩ := part_sound (w := w) hpy hy
        split at h
        · rename_i he
          have h1 := hf _ _ _ _ _ _ he rv ru
          have := ih' h hx hy
          simp [hn, hv, hu, h1]
          simpa using this
        · rename_i he
          have h1 := hf _ _ _ _ _ _ he rv ru
          injection h with h; subst h
          simp [hn, hv, hu, h1]
        · cases h
      · cases h

theorem size_flat_ne {xs : List AV} (h : ∀ x ∈ xs, 0 < x.cells.length) (hx : xs ≠ []) : 0 < (flat xs).length := by
  cases xs with
  | nil => exact absurd rfl hx
  | cons x r => have := h x (by simp); simp [flat]; omega

theorem eqIn_sound : ∀ (d : Nat) (t : TypeId) (x y : AV) (v u : Value) (r : Bool), eqIn P d t x y = some r → Rep P M x v → Rep P M y u → (Op.equalIn d t v u).run P w = .ok r w := by
  intro d
  induction d with
  | zero => intro t x y v u r h; simp [eqIn] at h
  | succ d ih =>
    intro t x y v u r h rx ry
    unfold eqIn at h
    unfold Op.equalIn
    split at h
    case h_1 hu =>
      split at h
      · cases rx; cases ry; injection h with h; subst h; simp [run_underlying' hu]
      · cases h
    case h_2 hu =>
      split at h
      · cases rx; cases ry
        split at h
        · rename_i hk; injection h with h; subst h; subst hk; simp [run_underlying' hu]
        · cases h
      · cases h
    case h_3 hu =>
      split at h
      · cases rx; cases ry; injection h with h; subst h; simp only [Sem.run_bind, run_underlying' hu, Result.andThen_ok, Sem.run_pure, bytes_beq]
      · cases h
    case h_4 hu =>
      split at h <;> first
        | (cases h; done)
        | (cases rx; cases ry; injection h with h; subst h; simp [run_underlying' hu]; done)
    case h_5 hu =>
      split at h
      · cases rx; cases ry; injection h with h; subst h; simp [run_underlying' hu]
      · cases ry
        cases rx with
        | lst e xs sp a cap sz b off c hsz hz hall hcap ha hc hr h1 =>
          obtain rfl := ha (by simp)
          injection h with h; subst h
          simp [run_underlying' hu]
      · cases rx
        cases ry with
        | lst e xs sp a cap sz b off c hsz hz hall hcap ha hc hr h1 =>
          obtain rfl := ha (by simp)
          injection h with h; subst h
          simp [run_underlying' hu]
      · cases h
    case h_6 hu =>
      split at h <;> first
        | (cases h; done)
        | (cases rx; cases ry; injection h with h; subst h; simp [run_underlying' hu]; done)
    case h_7 hu =>
      split at h <;> first
        | (cases h; done)
        | (cases rx; cases ry; injection h with h; subst h; simp [run_underlying' hu]; done)
    case h_8 hu =>
      split at h <;> first
        | (cases h; done)
        | (cases rx; cases ry; injection h with h; subst h; simp [run_underlying' hu]; done)
    case h_9 fields hu =>
      split at h
      · rename_i xs ys
        split at h
        · cases h
        · rename_i hs
          obtain ⟨vs, rfl, hvs⟩ := agg_inv rx
          obtain ⟨us, rfl, hus⟩ := agg_inv ry
          have hs' : P.stoodInHeld t = false := by simpa using hs
          have := eqFields_sound (w := w) (g := Op.equalIn d) (fun t x y v u r => ih t x y v u r) fields.toList xs ys vs us r h hvs hus
          simp only [Sem.run_bind, run_underlying' hu, Result.andThen_ok, run_program, hs', Bool.false_eq_true, if_false, Sem.run_pure]
          rw [← Sem.run_bind]
          simpa using this
      · cases h
    case h_10 => cases h

end
end Go.Proofs.Ytnajopkaepjncaa.Am
