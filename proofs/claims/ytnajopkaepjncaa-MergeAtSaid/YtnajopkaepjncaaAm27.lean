/- Walks, third part: operations. -/
import Derived.Test.YtnajopkaepjncaaAm26
namespace Go.Proofs.Ytnajopkaepjncaa.Am
set_option linter.unusedVariables false
set_option linter.unusedSimpArgs false

section
variable {P : Program} {K : Know} {ops : List Oper}

/-- One answer for all fuels. -/
theorem core_all {o : Oper} {s : S2} {r : R2} (h : ∀ own, SetEq own (ownOf s.slots s.cells) → ∃ own', SetEq own' (ownOf r.slots r.cells) ∧ ∀ call, core call P ops o s.env s.H own = some ⟨r.val, r.H, own', r.gives⟩) : CoreTo P K ops o s r := by
  intro own hown
  obtain ⟨own', h1, h2⟩ := h own hown
  exact ⟨own', h1, Ev.of fun n => h2 _⟩

theorem wAppend_to {s : S2} {x y : Operand} {ts ty : TypeId} {k : R2 → Prop} (h : wAppend P s x y ts ty k) :
    ∃ r, k r ∧ ∀ own, SetEq own (ownOf s.slots s.cells) → ∃ own', SetEq own' (ownOf r.slots r.cells) ∧ appendA P s.env s.H own x y ts ty = some ⟨r.val, r.H, own', r.gives⟩ := by
  unfold wAppend at h
  obtain ⟨a, h1, h⟩ := wO_to h
  obtain ⟨b, h2, h⟩ := wO_to h
  split at h
  case h_2 => exact h.elim
  rename_i e hu
  split at h
  case h_2 => exact h.elim
  rename_i i z hi hz
  obtain ⟨ys, hys, h⟩ := h
  split at h
  · obtain ⟨c1, c2, c3, c4, hk⟩ := h
    refine ⟨_, hk, fun own hown => ⟨own, hown, ?_⟩⟩
    unfold appendA
    simp only [hu, h1, h2, hys, hi, hz]
    rw [if_pos ⟨c1, c2, c3, c4⟩]
  · cases x with
    | tmp t =>
      simp only at h
      obtain ⟨c0, c1, c2, c3, c4, c5, zs, rfl, hk⟩ := h
      refine ⟨_, hk, fun own hown => ⟨drop own (.slot t), setEq_drop hown t, ?_⟩⟩
      unfold appendA
      simp only [hu, h1, h2, hys, hi, hz]
      rw [if_pos ⟨by rw [setEq_owns hown]; exact c0, c1, c2, c3, c4, c5⟩]
    | const c => exact h.elim
    | global c => exact h.elim
    | func c => exact h.elim
  · exact h.elim

theorem wStored_to {s : S2} {x : Operand} {v : AV} {id off : Nat} {k : List Nat → List (Nat × Nat) → Prop} (h : wStored s x v id off k) :
    ∃ sl cs, k sl cs ∧ ∀ own, SetEq own (ownOf s.slots s.cells) → SetEq (match (generalizing := false) x with
           | .tmp s => cond (owns own (.slot s) && v.isOne) (give (drop (dropCells own id off v.cells.length) (.slot s)) (.cell id off)) (dropCells own id off v.cells.length)
           | _ => dropCells own id off v.cells.length) (ownOf sl cs) := by
  have hd : ∀ own, SetEq own (ownOf s.slots s.cells) → ∀ l, l ∈ dropCells own id off v.cells.length ↔ (∃ q, q ∈ s.slots ∧ l = .slot q) ∨ ∃ p, (p ∈ s.cells ∧ ¬ (p.1 = id ∧ off ≤ p.2 ∧ p.2 < off + v.cells.length)) ∧ l = .cell p.1 p.2 := by
    intro own hown l
    unfold dropCells
    rw [List.mem_filter, hown, mem_ownOf]
    cases l with
    | slot q => simp
    | cell i o =>
      constructor
      · rintro ⟨h1 | ⟨p, h1, h2⟩, h3⟩
        · obtain ⟨q, _, h⟩ := h1; cases h
        · injection h2 with e1 e2
          subst e1; subst e2
          refine .inr ⟨p, ⟨h1, ?_⟩, rfl⟩
          rintro ⟨g1, g2, g3⟩
          simp only [g1, Nat.beq_refl, Bool.true_and, Bool.not_eq_true', Bool.and_eq_false_iff] at h3
          rcases h3 with h3 | h3
          · rw [Nat.ble_eq.mpr g2] at h3; cases h3
          · rw [Nat.blt_eq.mpr g3] at h3; cases h3
      · rintro (⟨q, _, h⟩ | ⟨p, ⟨h1, h2⟩, h3⟩)
        · cases h
        · injection h3 with e1 e2
          subst e1; subst e2
          refine ⟨.inr ⟨p, h1, rfl⟩, ?_⟩
          simp only [Bool.not_eq_true', Bool.and_eq_false_iff]
          by_cases g1 : p.1 = id
          · by_cases g2 : off ≤ p.2
            · refine .inr ?_
              cases hb : Nat.blt p.2 (off + v.cells.length) with
              | false => rfl
              | true => exact absurd ⟨g1, g2, Nat.blt_eq.mp hb⟩ h2
            · refine .inl (.inr ?_)
              cases hb : Nat.ble off p.2 with
              | false => rfl
              | true => exact absurd (Nat.ble_eq.mp hb) g2
          · refine .inl (.inl ?_)
            cases hb : Nat.beq p.1 id with
            | false => rfl
            | true => exact absurd (Nat.eq_of_beq_eq_true hb) g1
  unfold wStored at h
  obtain ⟨sl, mv, h, hcase⟩ := wMoved_to (cells := s.cells) h
  split at h
  · rename_i hb
    rw [Bool.and_eq_true] at hb
    obtain ⟨cs, hcs, hk⟩ := h
    rcases hcase with ⟨q, rfl, hh, rfl, _⟩ | ⟨_, hm, _⟩
    · refine ⟨_, _, hk, fun own hown => ?_⟩
      simp only [setEq_owns hown, hh, hb.2, Bool.and_self, cond_true]
      intro l
      rw [mem_give, mem_drop, hd own hown, mem_ownOf]
      constructor
      · rintro (h | ⟨⟨h1 | ⟨p, h1, h2⟩, h3⟩, h4⟩)
        · exact .inr ⟨(id, off), (hcs _).2 (.inl rfl), h⟩
        · obtain ⟨q', h1, h2⟩ := h1
          subst h2
          exact .inl ⟨q', mem_drp.2 ⟨h1, fun e => h3 (by rw [e])⟩, rfl⟩
        · exact .inr ⟨p, (hcs p).2 (.inr h1), h2⟩
      · rintro (⟨q', h1, h2⟩ | ⟨p, h1, h2⟩)
        · subst h2
          rw [mem_drp] at h1
          exact .inr ⟨⟨.inl ⟨q', h1.1, rfl⟩, fun e => by injection e with e; exact h1.2 e⟩, by intro e; cases e⟩
        · rcases (hcs p).1 h1 with e | e
          · subst e; exact .inl h2
          · by_cases hl : l = .cell id off
            · exact .inl hl
            · exact .inr ⟨⟨.inr ⟨p, e, h2⟩, by rw [h2]; intro e; cases e⟩, hl⟩
    · rw [hm] at hb; cases hb.1
  · rename_i hb
    obtain ⟨cs, hcs, hk⟩ := h
    refine ⟨_, _, hk, fun own hown => ?_⟩
    have hfin : SetEq (dropCells own id off v.cells.length) (ownOf s.slots cs) := by
      intro l
      rw [hd own hown, mem_ownOf]
      constructor
      · rintro (h | ⟨p, h1, h2⟩)
        · exact .inl h
        · exact .inr ⟨p, (hcs p).2 h1, h2⟩
      · rintro (h | ⟨p, h1, h2⟩)
        · exact .inl h
        · exact .inr ⟨p, (hcs p).1 h1, h2⟩
    cases x with
    | tmp q =>
      simp only [setEq_owns hown]
      rcases hcase with ⟨q', e, hh, _, hm⟩ | ⟨_, hm, hall⟩
      · injection e with e; subst e
        rw [hm, Bool.true_and] at hb
        rw [hb, Bool.and_false]; exact hfin
      · rw [hall q rfl, Bool.false_and]; exact hfin
    | const c => exact hfin
    | global c => exact hfin
    | func c => exact hfin

theorem wCore_to {o : Oper} {s : S2} {k : R2 → Prop} (h : wCore P K ops o s k) : ∃ r, k r ∧ CoreTo P K ops o s r := by
  obtain ⟨dst, op, ty, pos, after, guard⟩ := o
  unfold wCore at h
  simp only at h
  split at h
  · -- move
    rename_i v
    rw [frc_iff] at h
    split at h
    · rename_i hb
      refine ⟨_, h, core_all fun own hown => ⟨drop own (.slot v), setEq_drop hown v, fun call => ?_⟩⟩
      simp only [core, setEq_owns hown, hb, cond_true]
    · rename_i hb
      refine ⟨_, h, core_all fun own hown => ⟨own, hown, fun call => ?_⟩⟩
      simp only [core, setEq_owns hown, hb, cond_false]
  · -- load
    rename_i t a
    obtain ⟨p, hp, h⟩ := wO_to h
    split at h
    · rename_i id off
      obtain ⟨b, hbk, h⟩ := h
      obtain ⟨v, hv, h⟩ : ∃ v, loadA P s.H t (.ptr id off) = some v ∧ _ := by
        unfold wRd at h
        split at h
        · rename_i n hn
          split at h
          · rename_i hle
            obtain ⟨v, hv, h⟩ := wOpt_to h
            refine ⟨v, ?_, h⟩
            unfold loadA readCells
            simp only [hn, hbk, if_pos (Nat.ble_eq.mp hle), hv]
          · exact h.elim
        · exact h.elim
      split at h
      · rename_i hb
        rcases h with ⟨hm, cs, hcs, h⟩ | ⟨hm, h⟩
        · refine ⟨_, h, core_all fun own hown => ⟨drop own (.cell id off), ?_, fun call => ?_⟩⟩
          · intro l
            rw [mem_drop, hown]
            cases l with
            | slot q => rw [slot_ownOf, slot_ownOf]; simp
            | cell i o =>
              rw [cell_ownOf, cell_ownOf, hcs]
              constructor
              · rintro ⟨h1, h2⟩; exact ⟨h1, fun e => h2 (by injection e with e1 e2; rw [e1, e2])⟩
              · rintro ⟨h1, h2⟩; exact ⟨h1, fun e => h2 (by injection e with e1 e2; rw [e1, e2])⟩
          · simp only [core, hp, hv, (setEq_ownsc hown id off).2 hm, Bool.true_and, hb, cond_true]
        · refine ⟨_, h, core_all fun own hown => ⟨own, hown, fun call => ?_⟩⟩
          have : owns own (.cell id off) = false := by
            cases ho : owns own (.cell id off) with
            | false => rfl
            | true => exact absurd ((setEq_ownsc hown id off).1 ho) hm
          simp only [core, hp, hv, this, Bool.false_and, cond_false]
      · rename_i hb
        refine ⟨_, h, core_all fun own hown => ⟨own, hown, fun call => ?_⟩⟩
        have : (owns own (.cell id off) && appDst ops dst && (sizeT P t == some 1) && (isAggT P t == some false)) = false := by
          rw [Bool.and_assoc, Bool.and_assoc, ← Bool.and_assoc (appDst ops dst), hb, Bool.and_false]
        simp only [core, hp, hv, this, cond_false]
    · rename_i hne
      obtain ⟨v, hv, h⟩ := wOpt_to h
      refine ⟨_, h, core_all fun own hown => ⟨own, hown, fun call => ?_⟩⟩
      simp only [core, hp, hv]
  · -- alloc
    rename_i e
    split at h
    · rename_i z hz
      obtain ⟨id, rfl, H', rfl, h⟩ := h
      exact ⟨_, h, core_all fun own hown => ⟨own, hown, fun call => by simp only [core, hz]⟩⟩
    · exact h.elim
  · -- box
    rename_i e x
    obtain ⟨v, hv, h0, id, rfl, H', rfl, h⟩ := wO_to h
    exact ⟨_, h, core_all fun own hown => ⟨own, hown, fun call => by simp only [core, hv, if_pos h0]⟩⟩
  · -- store
    rename_i t a x
    obtain ⟨p, hp, h1⟩ := wO_to h
    clear h
    obtain ⟨v, hv, h2⟩ := wO_to h1
    clear h1
    cases p with
    | ptr id off =>
      simp only at h2
      cases hn : sizeT P t with
      | none => rw [hn] at h2; exact h2.elim
      | some n =>
        rw [hn] at h2
        obtain ⟨b, hbk, c1, c2, c3, H', hH', h3⟩ := h2
        have hst : storeA P s.H t (.ptr id off) v = some H' := by
          unfold storeA
          simp only [hn, hbk]
          rw [if_pos ⟨c1, c2, c3⟩, hH']
        obtain ⟨sl, cs, hk, hown⟩ := wStored_to h3
        clear h3
        refine ⟨_, hk, core_all fun own ho => ⟨_, hown own ho, fun call => ?_⟩⟩
        simp only [core, hp, hv, hst]
        cases x <;> rfl
    | _ => exact h2.elim
  · -- assign
    rename_i x
    obtain ⟨v, hv, h⟩ := wO_to h
    obtain ⟨sl, mv, h, hcase⟩ := wMoved_to (cells := s.cells) h
    rcases hcase with ⟨q, rfl, hh, rfl, rfl⟩ | ⟨rfl, rfl, hall⟩
    · refine ⟨_, h, core_all fun own hown => ⟨drop own (.slot q), setEq_drop hown q, fun call => ?_⟩⟩
      simp only [core, hv, setEq_owns hown, hh, cond_true]
    · refine ⟨_, h, core_all fun own hown => ⟨own, hown, fun call => ?_⟩⟩
      cases x with
      | tmp q => simp only [core, hv, setEq_owns hown, hall q rfl, cond_false]
      | const c => simp only [core, hv]
      | global c => simp only [core, hv]
      | func c => simp only [core, hv]
  · -- buildSlice
    rename_i t len parts
    split at h
    · rename_i r hr
      rw [frcD_iff] at h
      refine ⟨_, h, core_all fun own hown => ⟨own, hown, fun call => ?_⟩⟩
      simp only [core] at hr ⊢
      split at hr
      · rename_i e ps h1 h2
        split at hr
        · rename_i sz z h3 h4
          split at hr
          · rename_i hc
            split at hr
            · rename_i cs h5
              split at hr
              · rename_i xs h6
                injection hr with hr; subst hr
                simp only [h1, h2, h3, h4, if_pos hc, h5, h6]
              · cases hr
            · cases hr
          · cases hr
        · cases hr
      · cases hr
    · exact h.elim
  · -- makeSlice
    rename_i t l c
    obtain ⟨n, hn, h⟩ := wO_to h
    obtain ⟨cp, hcp, h⟩ := wO_to h
    split at h
    · rename_i e hu
      split at h
      · rename_i n' c' i z h1 h2 h3 h4
        obtain ⟨c1, c2, c3, c4, c5, h⟩ := h
        split at h
        · rename_i x hx
          obtain ⟨zs, rfl, h⟩ := h
          refine ⟨_, h, core_all fun own hown => ⟨own, hown, fun call => ?_⟩⟩
          simp only [core, hu, hn, hcp, h1, h2, h3, h4]
          rw [if_pos ⟨c1, c2, c3, c4, c5⟩]
          simp only [hx]
        · exact h.elim
      · exact h.elim
    · exact h.elim
  · -- convert
    rename_i src dst' x
    obtain ⟨a, ha, v, hv, h⟩ := wO_to h
    refine ⟨_, h, core_all fun own hown => ⟨own, hown, fun call => ?_⟩⟩
    have h1 := (core_heap (P := P) (call := fun _ _ _ _ => none) (ops := ops) (o := { dst := dst, op := .convert src dst' x, type := ty, pos := pos, after := after, guard := guard }) rfl rfl hv).2 s.H (fun t a id off e => by cases e)
    have h2 := (core_own (P := P) (call := fun _ _ _ _ => none) (ops := ops) (o := { dst := dst, op := .convert src dst' x, type := ty, pos := pos, after := after, guard := guard }) rfl h1).2 own
    exact h2
  · -- a function's value
    rename_i f args at_
    obtain ⟨fv, hf, h⟩ := wO_to h
    split at h
    · rename_i g cap
      obtain ⟨vs, hvs, h⟩ := wL_to h
      obtain ⟨r, hk, hc⟩ := wCall_to h
      refine ⟨r, hk, fun own hown => ?_⟩
      obtain ⟨own', h1, h2⟩ := hc own hown
      exact ⟨own', h1, h2.mono fun n hn => by simp only [core, hf, hvs]; exact hn⟩
    · exact h.elim
  · -- a method
    rename_i r name args at_
    obtain ⟨rv, hr, h⟩ := wO_to h
    split at h
    · rename_i t v
      obtain ⟨vs, hvs, f, x, hm, h⟩ := wL_to h
      obtain ⟨r, hk, hc⟩ := wCall_to h
      refine ⟨r, hk, fun own hown => ?_⟩
      obtain ⟨own', h1, h2⟩ := hc own hown
      exact ⟨own', h1, h2.mono fun n hn => by simp only [core, hr, hvs, hm]; exact hn⟩
    · exact h.elim
  · -- append
    rename_i args at_
    split at h
    · rename_i x y ts ty' e1 e2
      obtain ⟨r, hk, hc⟩ := wAppend_to h
      refine ⟨r, hk, core_all fun own hown => ?_⟩
      obtain ⟨own', h1, h2⟩ := hc own hown
      exact ⟨own', h1, fun call => by simp only [core, e1, e2]; exact h2⟩
    · exact h.elim
  · -- the others
    rename_i op' n1 n2 n3 n4 n5 n6 n7 n8 n9 n10 n11 n12
    obtain ⟨v, hv, h⟩ := wPure_to h
    refine ⟨_, h, core_all fun own hown => ⟨own, hown, fun call => ?_⟩⟩
    unfold core
    simp only
    rw [hv]; rfl

end
end Go.Proofs.Ytnajopkaepjncaa.Am
