/- Walks, second part: what an operation asks is enough. -/
import Derived.Test.YtnajopkaepjncaaAm25
namespace Go.Proofs.Ytnajopkaepjncaa.Am
set_option linter.unusedVariables false
set_option linter.unusedSimpArgs false

section
variable {P : Program} {K : Know}

theorem Ev.of {p : Nat → Prop} (h : ∀ n, p n) : Ev p := ⟨0, fun n _ => h n⟩
theorem Ev.mono {p q : Nat → Prop} (h : Ev p) (k : ∀ n, p n → q n) : Ev q := by obtain ⟨N, hN⟩ := h; exact ⟨N, fun n hn => k n (hN n hn)⟩
theorem Ev.both {p q : Nat → Prop} (h : Ev p) (k : Ev q) : Ev fun n => p n ∧ q n := by
  obtain ⟨N, hN⟩ := h; obtain ⟨M, hM⟩ := k
  exact ⟨max N M, fun n hn => ⟨hN n (by omega), hM n (by omega)⟩⟩
theorem Ev.succ {p q : Nat → Prop} (h : Ev p) (k : ∀ n, p n → q (n + 1)) : Ev q := by
  obtain ⟨N, hN⟩ := h
  refine ⟨N + 1, fun n hn => ?_⟩
  obtain ⟨m, rfl⟩ : ∃ m, n = m + 1 := ⟨n - 1, by omega⟩
  exact k m (hN m (by omega))

theorem frc_iff (v : AV) (k : AV → Prop) : frc v k ↔ k v := by cases v <;> exact Iff.rfl
theorem frcS_iff : ∀ (l : List Nat) (k : List Nat → Prop), frcS l k ↔ k l
  | [], k => Iff.rfl
  | a :: r, k => frcS_iff r fun r' => k (a :: r')
theorem frcL_iff : ∀ (l : List AV) (k : List AV → Prop), frcL l k ↔ k l
  | [], k => Iff.rfl
  | a :: r, k => by unfold frcL; rw [frc_iff]; exact frcL_iff r fun r' => k (a :: r')
theorem frcA_iff (v : AV) (k : AV → Prop) : frcA v k ↔ k v := by
  unfold frcA
  split
  · exact frcL_iff _ _
  · exact frc_iff _ _
theorem frcM_iff : ∀ (l : List AV) (k : List AV → Prop), frcM l k ↔ k l
  | [], k => Iff.rfl
  | a :: r, k => by unfold frcM; rw [frcA_iff]; exact frcM_iff r fun r' => k (a :: r')
theorem frcD_iff (v : AV) (k : AV → Prop) : frcD v k ↔ k v := by
  unfold frcD
  split
  · exact frcL_iff _ _
  · exact frcM_iff _ _
  · exact frc_iff _ _
theorem wOpt_to {x : Option AV} {k : AV → Prop} (h : wOpt x k) : ∃ v, x = some v ∧ k v := by
  unfold wOpt at h
  split at h
  · exact ⟨_, rfl, (frc_iff _ _).1 h⟩
  · exact h.elim
theorem wO_to {env : List (Nat × AV)} {x : Operand} {k : AV → Prop} (h : wO env x k) : ∃ v, evalO env x = some v ∧ k v := wOpt_to h
theorem wL_to {env : List (Nat × AV)} : ∀ {l : List Operand} {k : List AV → Prop}, wL env l k → ∃ vs, evalL env l = some vs ∧ k vs
  | [], _, h => ⟨[], rfl, h⟩
  | x :: r, k, h => by
    obtain ⟨v, h1, h2⟩ := wO_to h
    obtain ⟨vs, h3, h4⟩ := wL_to h2
    exact ⟨v :: vs, by simp only [evalL, h1, h3], h4⟩
theorem wOptO_to {env : List (Nat × AV)} {x : Option Operand} {k : Option AV → Prop} (h : wOptO env x k) : ∃ v, optA env x = some v ∧ k v := by
  cases x with
  | none => exact ⟨none, rfl, h⟩
  | some x =>
    obtain ⟨v, h1, h2⟩ := wO_to h
    exact ⟨some v, by simp only [optA, h1, Option.map_some], h2⟩
theorem wBin_to {op : BinOp} {t : TypeId} {x y : Operand} {a b : AV} {k : AV → Prop} (h : wBin P op t x y a b k) : ∃ v, binOpA P op t x y a b = some v ∧ k v := by
  unfold wBin at h
  split at h
  · split at h
    · exact h
    · exact wOpt_to h
  · split at h
    · exact h
    · exact wOpt_to h
  · exact h
theorem wIdxA_to {t : TypeId} {a b : AV} {k : AV → Prop} (h : wIdxA P t a b k) : ∃ v, indexAddrA P t a b = some v ∧ k v := by
  unfold wIdxA at h
  split at h
  · rename_i elem _ n e xs _ hu
    split at h
    · rename_i he
      obtain ⟨h0, v, hv, hk⟩ := h
      refine ⟨_, ?_, hk⟩
      have hlt := (List.getElem?_eq_some_iff.1 hv).1
      have hin : inRange n xs.length = true := by unfold inRange; simp; omega
      have : e = elem := Nat.eq_of_beq_eq_true he
      unfold indexAddrA
      simp only [hu, this, hin, hv, decide_true, Bool.and_self, if_true, Option.map_some]
    · exact h.elim
  · exact h
theorem wPure_to {env : List (Nat × AV)} {op : Op} {k : AV → Prop} (h : wPure P env op k) : ∃ v, pureOp P env op = some v ∧ k v := by
  unfold wPure at h
  split at h
  · obtain ⟨a, h1, h⟩ := wO_to h
    obtain ⟨b, h2, h⟩ := wO_to h
    obtain ⟨v, h3, h⟩ := wBin_to h
    exact ⟨v, by simp only [pureOp, h1, h2]; exact h3, h⟩
  · obtain ⟨a, h1, h⟩ := wO_to h
    split at h
    · obtain ⟨v, h3, h⟩ := h
      exact ⟨v, by simp only [pureOp, h1]; exact h3, h⟩
    · obtain ⟨v, h3, h⟩ := wOpt_to h
      exact ⟨v, by simp only [pureOp, h1]; exact h3, h⟩
  · obtain ⟨a, h1, h⟩ := wO_to h
    obtain ⟨b, h2, h⟩ := wO_to h
    obtain ⟨v, h3, h⟩ := wIdxA_to h
    exact ⟨v, by simp only [pureOp, h1, h2]; exact h3, h⟩
  · obtain ⟨a, h1, h⟩ := wO_to h
    obtain ⟨b, h2, h⟩ := wO_to h
    obtain ⟨v, h3, h⟩ := h
    exact ⟨v, by simp only [pureOp, h1, h2]; exact h3, h⟩
  · split at h
    · rename_i ps hps
      split at h
      · rename_i v hv
        rw [buildB_eq] at hv
        exact ⟨v, by simp only [pureOp, hps]; exact hv, (frcD_iff _ _).1 h⟩
      · exact h.elim
    · exact h.elim
  · obtain ⟨a, h1, h⟩ := wO_to h
    obtain ⟨b, h2, h⟩ := wOptO_to h
    obtain ⟨c, h3, h⟩ := wOptO_to h
    obtain ⟨d, h4, h⟩ := wOptO_to h
    obtain ⟨v, h5, h⟩ := h
    exact ⟨v, by simp only [pureOp, h1, h2, h3, h4]; exact h5, h⟩
  · exact wOpt_to h

/-! ### owned slots and cells -/
theorem mem_ownOf {slots : List Nat} {cells : List (Nat × Nat)} {l : Loc} : l ∈ ownOf slots cells ↔ (∃ s, s ∈ slots ∧ l = .slot s) ∨ ∃ p, p ∈ cells ∧ l = .cell p.1 p.2 := by
  unfold ownOf
  rw [List.mem_append, List.mem_map, List.mem_map]
  constructor
  · rintro (⟨s, h1, h2⟩ | ⟨p, h1, h2⟩)
    · exact .inl ⟨s, h1, h2.symm⟩
    · exact .inr ⟨p, h1, h2.symm⟩
  · rintro (⟨s, h1, h2⟩ | ⟨p, h1, h2⟩)
    · exact .inl ⟨s, h1, h2.symm⟩
    · exact .inr ⟨p, h1, h2.symm⟩
theorem slot_ownOf {slots : List Nat} {cells : List (Nat × Nat)} {s : Nat} : Loc.slot s ∈ ownOf slots cells ↔ s ∈ slots := by
  rw [mem_ownOf]
  constructor
  · rintro (⟨q, h1, h2⟩ | ⟨p, h1, h2⟩)
    · injection h2 with h2; subst h2; exact h1
    · cases h2
  · exact fun h => .inl ⟨s, h, rfl⟩
theorem cell_ownOf {slots : List Nat} {cells : List (Nat × Nat)} {i o : Nat} : Loc.cell i o ∈ ownOf slots cells ↔ (i, o) ∈ cells := by
  rw [mem_ownOf]
  constructor
  · rintro (⟨q, h1, h2⟩ | ⟨p, h1, h2⟩)
    · cases h2
    · injection h2 with h2 h3; subst h2; subst h3; exact h1
  · exact fun h => .inr ⟨(i, o), h, rfl⟩
theorem mem_has {slots : List Nat} {s : Nat} : has slots s = true ↔ s ∈ slots := by
  unfold has
  rw [List.any_eq_true]
  constructor
  · rintro ⟨q, h1, h2⟩; have := Nat.eq_of_beq_eq_true h2; subst this; exact h1
  · intro h; exact ⟨s, h, Nat.beq_refl s⟩
theorem mem_drp {slots : List Nat} {s q : Nat} : q ∈ drp slots s ↔ q ∈ slots ∧ q ≠ s := by
  unfold drp
  rw [List.mem_filter]
  constructor
  · rintro ⟨h1, h2⟩
    refine ⟨h1, fun e => ?_⟩
    subst e
    rw [Nat.beq_refl] at h2; cases h2
  · rintro ⟨h1, h2⟩
    refine ⟨h1, ?_⟩
    cases hb : Nat.beq s q with
    | false => rfl
    | true => exact absurd (Nat.eq_of_beq_eq_true hb).symm h2
theorem setEq_owns {own : List Loc} {slots : List Nat} {cells : List (Nat × Nat)} (h : SetEq own (ownOf slots cells)) (v : Nat) : owns own (.slot v) = has slots v := by
  rw [Bool.eq_iff_iff, owns_iff, mem_has, h, slot_ownOf]
theorem setEq_ownsc {own : List Loc} {slots : List Nat} {cells : List (Nat × Nat)} (h : SetEq own (ownOf slots cells)) (i o : Nat) : owns own (.cell i o) = true ↔ (i, o) ∈ cells := by
  rw [owns_iff, h, cell_ownOf]
theorem setEq_drop {own : List Loc} {slots : List Nat} {cells : List (Nat × Nat)} (h : SetEq own (ownOf slots cells)) (v : Nat) : SetEq (drop own (.slot v)) (ownOf (drp slots v) cells) := by
  intro l
  rw [mem_drop, h]
  cases l with
  | slot s => rw [slot_ownOf, slot_ownOf, mem_drp]; simp
  | cell i o => rw [cell_ownOf, cell_ownOf]; simp
theorem setEq_give {own : List Loc} {slots : List Nat} {cells : List (Nat × Nat)} (h : SetEq own (ownOf slots cells)) (v : Nat) : SetEq (give own (.slot v)) (ownOf (v :: drp slots v) cells) := by
  intro l
  rw [mem_give, h]
  cases l with
  | slot s =>
    rw [slot_ownOf, slot_ownOf, List.mem_cons, mem_drp]
    constructor
    · rintro (h | ⟨h1, h2⟩)
      · injection h with h; exact .inl h
      · exact .inr ⟨h1, fun e => h2 (by rw [e])⟩
    · rintro (h | ⟨h1, h2⟩)
      · exact .inl (by rw [h])
      · exact .inr ⟨h1, fun e => by injection e with e; exact h2 e⟩
  | cell i o => rw [cell_ownOf, cell_ownOf]; simp

/-- 'core' does so, whatever the list of what is owned looks like. -/
def CoreTo (P : Program) (K : Know) (ops : List Oper) (o : Oper) (s : S2) (r : R2) : Prop :=
  ∀ own, SetEq own (ownOf s.slots s.cells) → ∃ own', SetEq own' (ownOf r.slots r.cells) ∧ Ev fun n => core (callN P K n) P ops o s.env s.H own = some ⟨r.val, r.H, own', r.gives⟩

theorem wCall_to {f : FuncId} {args : List AV} {s : S2} {k : R2 → Prop} (h : wCall P K f args s k) :
    ∃ r, k r ∧ ∀ own, SetEq own (ownOf s.slots s.cells) → ∃ own', SetEq own' (ownOf r.slots r.cells) ∧ Ev fun n => callA (callN P K n) P s.H own f args = some ⟨r.val, r.H, own', r.gives⟩ := by
  unfold wCall at h
  split at h
  case h_2 => exact h.elim
  rename_i hb
  obtain ⟨x, H', cells', hc, hk⟩ := h
  rw [frc_iff] at hk
  refine ⟨_, hk, fun own hown => ?_⟩
  have h1 : SetEq (canon (own.filter Loc.isCell)) (ownOf [] s.cells) := by
    intro l
    rw [mem_canon, List.mem_filter, hown]
    cases l with
    | slot s => rw [slot_ownOf, slot_ownOf]; simp [Loc.isCell]
    | cell i o => rw [cell_ownOf, cell_ownOf]; simp [Loc.isCell]
  obtain ⟨own1, h2, h3⟩ := hc _ h1
  refine ⟨own.filter (fun l => !l.isCell) ++ own1.filter Loc.isCell, ?_, h3.mono fun n hn => ?_⟩
  · intro l
    rw [List.mem_append, List.mem_filter, List.mem_filter, hown, h2]
    cases l with
    | slot s => rw [slot_ownOf, slot_ownOf, slot_ownOf]; simp [Loc.isCell]
    | cell i o => rw [cell_ownOf, cell_ownOf, cell_ownOf]; simp [Loc.isCell]
  · simp only [callA, hb, cond_true, hn]

theorem wMoved_to {slots : List Nat} {cells : List (Nat × Nat)} {x : Operand} {k : List Nat → Bool → Prop} (h : wMoved slots x k) : ∃ sl mv, k sl mv ∧
    ((∃ v, x = .tmp v ∧ has slots v = true ∧ sl = drp slots v ∧ mv = true) ∨ (sl = slots ∧ mv = false ∧ ∀ v, x = .tmp v → has slots v = false)) := by
  unfold wMoved at h
  split at h
  · rename_i v
    split at h
    · rename_i hh; exact ⟨_, _, h, .inl ⟨v, rfl, hh, rfl, rfl⟩⟩
    · rename_i hh; exact ⟨_, _, h, .inr ⟨rfl, rfl, fun w e => by injection e with e; subst e; exact hh⟩⟩
  · rename_i hne
    exact ⟨_, _, h, .inr ⟨rfl, rfl, fun v e => absurd e (hne v)⟩⟩

end
end Go.Proofs.Ytnajopkaepjncaa.Am
