/- The abstract machine is right, seventeenth part: operations that ask neither for the heap nor for the ends. -/
import Derived.Test.YtnajopkaepjncaaAm20
namespace Go.Proofs.Ytnajopkaepjncaa.Am
set_option linter.unusedVariables false
set_option linter.unusedSimpArgs false
open Go.RowKit

section
variable {P : Program} {call : CallA} {ops : List Oper}

theorem plain_some {H : List (Option Blk)} {own : List Loc} {x : Option AV} {r : Res} (h : plainRes H own x = some r) : ∃ v, x = some v ∧ r = ⟨v, H, own, false⟩ := by
  cases x with
  | none => cases h
  | some v => injection h with h; exact ⟨v, rfl, h.symm⟩

/-- It leaves the ends, and does not ask for them. -/
theorem core_own {env : List (Nat × AV)} {H : List (Option Blk)} {own : List Loc} {o : Oper} {r : Res} (he : ends ops o = false) (h : core call P ops o env H own = some r) :
    r.own = own ∧ ∀ own', core call P ops o env H own' = some ⟨r.val, r.H, own', r.gives⟩ := by
  have fin : ∀ x : Option AV, core call P ops o env H own = plainRes H own x → (∀ own', core call P ops o env H own' = plainRes H own' x) → r.own = own ∧ ∀ own', core call P ops o env H own' = some ⟨r.val, r.H, own', r.gives⟩ := by
    intro x h1 h2
    obtain ⟨v, rfl, rfl⟩ := plain_some (h1.symm.trans h)
    exact ⟨rfl, fun own' => h2 own'⟩
  obtain ⟨dst, op, ty, pos, after, guard⟩ := o
  cases op
  case move x =>
    cases x with
    | tmp s =>
      simp only [ends] at he
      simp only [core, he, Bool.and_false, cond_false] at h ⊢
      injection h with h; subst h
      exact ⟨rfl, fun _ => rfl⟩
    | const v => exact fin _ rfl fun _ => rfl
    | func v => exact fin _ rfl fun _ => rfl
    | global v => exact fin _ rfl fun _ => rfl
  case load t a =>
    simp only [ends] at he
    simp only [core, he, Bool.and_false, Bool.false_and, cond_false] at h ⊢
    cases ha : evalO env a with
    | none => rw [ha] at h; cases h
    | some p =>
      rw [ha] at h
      simp only at h ⊢
      cases hl : loadA P H t p with
      | none => rw [hl] at h; cases h
      | some x =>
        rw [hl] at h
        simp only at h ⊢
        cases p <;> (simp only at h ⊢; injection h with h; subst h; exact ⟨rfl, fun _ => rfl⟩)
  case alloc e =>
    simp only [core] at h ⊢
    cases hz : zeroT P e with
    | none => rw [hz] at h; cases h
    | some z => rw [hz] at h; injection h with h; subst h; exact ⟨rfl, fun _ => rfl⟩
  case box e x =>
    simp only [core] at h ⊢
    cases hz : evalO env x with
    | none => rw [hz] at h; cases h
    | some z =>
      rw [hz] at h
      simp only at h ⊢
      split at h
      · injection h with h; subst h; exact ⟨rfl, fun _ => by split <;> first | rfl | contradiction⟩
      · cases h
  case store t a x => cases he
  case assign x => cases he
  case buildSlice t len parts =>
    simp only [core] at h ⊢
    split at h
    · rename_i e ps h1 h2
      split at h
      · rename_i sz z h3 h4
        split at h
        · rename_i hc
          split at h
          · rename_i cs h5
            split at h
            · rename_i xs h6
              injection h with h; subst h
              exact ⟨rfl, fun _ => by simp only [h1, h2, h3, h4, if_pos hc, h5, h6]⟩
            · cases h
          · cases h
        · cases h
      · cases h
    · cases h
  case makeSlice t l c =>
    simp only [core] at h ⊢
    split at h
    · rename_i e n c h1 h2 h3
      split at h
      · rename_i n' c' i z h4 h5 h6 h7
        split at h
        · rename_i hc
          split at h
          · rename_i x h8
            injection h with h; subst h
            exact ⟨rfl, fun _ => by simp only [h1, h2, h3, h4, h5, h6, h7, if_pos hc, h8]⟩
          · cases h
        · cases h
      · cases h
    · cases h
  case convert s d x =>
    simp only [core] at h ⊢
    split at h
    · rename_i e q h1 h2 h3
      split at h
      · rename_i h4 h5
        injection h with h; subst h
        exact ⟨rfl, fun _ => by simp only [h4, h5]⟩
      · cases h
    · rename_i e e' xs sp h1 h2 h3
      split at h
      · rename_i h4
        split at h
        · rename_i h5
          obtain ⟨v, hv, rfl⟩ := plain_some h
          exact ⟨rfl, fun _ => by simp only [h4, h5, if_true, hv]; rfl⟩
        · cases h
      · cases h
    · rename_i e h1 h2 h3
      split at h
      · rename_i h4
        injection h with h; subst h
        exact ⟨rfl, fun _ => by simp only [h4]⟩
      · cases h
    · rename_i a h1 n1 n2 n3
      obtain ⟨v, hv, rfl⟩ := plain_some h
      refine ⟨rfl, fun own' => ?_⟩
      rw [hv]; rfl
    · cases h
  case call c =>
    obtain ⟨callee, args, at_⟩ := c
    cases callee with
    | value f => cases he
    | invoke r name => cases he
    | builtin b =>
      cases b
      case append => cases he
      all_goals exact fin _ rfl fun _ => rfl
  all_goals exact fin _ rfl fun _ => rfl

/-- It leaves the heap, and asks at most for what a pointer points to. -/
theorem core_heap {env : List (Nat × AV)} {H : List (Option Blk)} {own : List Loc} {o : Oper} {r : Res} (hh : heapOp o = false) (ha : allocOp o = false) (h : core call P ops o env H own = some r) :
    r.H = H ∧ ∀ H', (∀ t a id off, o.op = .load t a → evalO env a = some (.ptr id off) → H'[id]? = H[id]?) → core call P ops o env H' own = some ⟨r.val, H', r.own, r.gives⟩ := by
  have fin : ∀ x : Option AV, core call P ops o env H own = plainRes H own x → (∀ H', core call P ops o env H' own = plainRes H' own x) → r.H = H ∧ ∀ H', (∀ t a id off, o.op = .load t a → evalO env a = some (.ptr id off) → H'[id]? = H[id]?) → core call P ops o env H' own = some ⟨r.val, H', r.own, r.gives⟩ := by
    intro x h1 h2
    obtain ⟨v, rfl, rfl⟩ := plain_some (h1.symm.trans h)
    exact ⟨rfl, fun H' _ => h2 H'⟩
  obtain ⟨dst, op, ty, pos, after, guard⟩ := o
  cases op
  case move x =>
    cases x with
    | tmp s =>
      simp only [core] at h ⊢
      injection h with h; subst h
      cases (owns own (.slot s) && appDst ops dst) <;> exact ⟨rfl, fun _ _ => rfl⟩
    | const v => exact fin _ rfl fun _ => rfl
    | func v => exact fin _ rfl fun _ => rfl
    | global v => exact fin _ rfl fun _ => rfl
  case load t a =>
    simp only [core] at h ⊢
    cases hp : evalO env a with
    | none => rw [hp] at h; cases h
    | some p =>
      rw [hp] at h
      simp only at h ⊢
      cases hl : loadA P H t p with
      | none => rw [hl] at h; cases h
      | some x =>
        rw [hl] at h
        have key : ∀ H' : List (Option Blk), (∀ (t_1 : TypeId) (a_1 : Operand) (id off : Nat), (Op.load t a = Op.load t_1 a_1) → evalO env a_1 = some (AV.ptr id off) → H'[id]? = H[id]?) → loadA P H' t p = some x := by
          intro H' hyp
          rw [← hl]
          unfold loadA
          split
          · cases p <;> simp only
            rename_i id off
            have := hyp t a id off rfl hp
            unfold readCells
            rw [this]
          · rfl
        simp only at h ⊢
        cases p with
        | ptr id off =>
          simp only at h ⊢
          refine ⟨?_, fun H' hyp => ?_⟩
          · injection h with h; subst h
            cases (owns own (.cell id off) && appDst ops dst && (sizeT P t == some 1) && (isAggT P t == some false)) <;> rfl
          · rw [key H' hyp]
            simp only
            injection h with h; subst h
            cases (owns own (.cell id off) && appDst ops dst && (sizeT P t == some 1) && (isAggT P t == some false)) <;> rfl
        | _ =>
          simp only at h ⊢
          injection h with h; subst h
          exact ⟨rfl, fun H' hyp => by rw [key H' hyp]⟩
  case alloc e => cases ha
  case box e x => cases ha
  case store t a x => cases hh
  case assign x =>
    simp only [core] at h ⊢
    cases hv : evalO env x with
    | none => rw [hv] at h; cases h
    | some v =>
      rw [hv] at h
      cases x with
      | tmp s =>
        simp only at h ⊢
        injection h with h; subst h
        cases owns own (.slot s) <;> exact ⟨rfl, fun _ _ => rfl⟩
      | _ =>
        simp only at h ⊢
        injection h with h; subst h
        exact ⟨rfl, fun _ _ => rfl⟩
  case buildSlice t len parts =>
    simp only [core] at h ⊢
    split at h
    · rename_i e ps h1 h2
      split at h
      · rename_i sz z h3 h4
        split at h
        · rename_i hc
          split at h
          · rename_i cs h5
            split at h
            · rename_i xs h6
              injection h with h; subst h
              exact ⟨rfl, fun H' _ => by simp only [h1, h2, h3, h4, if_pos hc, h5, h6]⟩
            · cases h
          · cases h
        · cases h
      · cases h
    · cases h
  case makeSlice t l c =>
    simp only [core] at h ⊢
    split at h
    · rename_i e n c h1 h2 h3
      split at h
      · rename_i n' c' i z h4 h5 h6 h7
        split at h
        · rename_i hc
          split at h
          · rename_i x h8
            injection h with h; subst h
            exact ⟨rfl, fun H' _ => by simp only [h1, h2, h3, h4, h5, h6, h7, if_pos hc, h8]⟩
          · cases h
        · cases h
      · cases h
    · cases h
  case convert s d x =>
    simp only [core] at h ⊢
    split at h
    · rename_i e q h1 h2 h3
      split at h
      · rename_i h4 h5
        injection h with h; subst h
        exact ⟨rfl, fun _ _ => by simp only [h4, h5]⟩
      · cases h
    · rename_i e e' xs sp h1 h2 h3
      split at h
      · rename_i h4
        split at h
        · rename_i h5
          obtain ⟨v, hv, rfl⟩ := plain_some h
          exact ⟨rfl, fun _ _ => by simp only [h4, h5, if_true, hv]; rfl⟩
        · cases h
      · cases h
    · rename_i e h1 h2 h3
      split at h
      · rename_i h4
        injection h with h; subst h
        exact ⟨rfl, fun _ _ => by simp only [h4]⟩
      · cases h
    · rename_i a h1 n1 n2 n3
      obtain ⟨v, hv, rfl⟩ := plain_some h
      refine ⟨rfl, fun H' _ => ?_⟩
      rw [hv]; rfl
    · cases h
  case call c =>
    obtain ⟨callee, args, at_⟩ := c
    cases callee with
    | value f => cases hh
    | invoke r name => cases hh
    | builtin b =>
      cases b
      case append =>
        simp only [core] at h ⊢
        split at h
        · rename_i s x ts tx h1 h2
          unfold appendA at h ⊢
          split at h
          · rename_i e a b h3 h4 h5
            split at h
            · rename_i ys i z h6 h7 h8
              split at h
              · split at h
                · rename_i hc
                  injection h with h; subst h
                  exact ⟨rfl, fun H' _ => by simp only [h3, h4, h5, h6, h7, h8, if_pos hc]⟩
                · cases h
              · split at h
                · split at h
                  · rename_i hc
                    injection h with h; subst h
                    exact ⟨rfl, fun H' _ => by simp only [h3, h4, h5, h6, h7, h8, if_pos hc]⟩
                  · cases h
                · cases h
              · cases h
            · cases h
          · cases h
        · cases h
      all_goals exact fin _ rfl fun _ => rfl
  all_goals exact fin _ rfl fun _ => rfl

/-- No slot becomes one's own but that which the value is put in. -/
theorem core_slots {env : List (Nat × AV)} {H : List (Option Blk)} {own : List Loc} {o : Oper} {r : Res} (h : core call P ops o env H own = some r) (s : Nat) (hs : Loc.slot s ∈ r.own) : Loc.slot s ∈ own := by
  cases he : ends ops o with
  | false => rw [(core_own he h).1] at hs; exact hs
  | true =>
    have hcallA : ∀ f args, callA call P H own f args = some r → Loc.slot s ∈ own := by
      intro f args hc
      unfold callA at hc
      cases hb : hasBody P f with
      | false => rw [hb] at hc; cases hc
      | true =>
        rw [hb] at hc
        simp only [cond_true] at hc
        split at hc
        · injection hc with hc; subst hc
          rcases List.mem_append.1 hs with h1 | h1
          · exact (List.mem_filter.1 h1).1
          · have := (List.mem_filter.1 h1).2; cases this
        · cases hc
    obtain ⟨dst, op, ty, pos, after, guard⟩ := o
    cases op
    case move x =>
      cases x with
      | tmp v =>
        simp only [core] at h
        injection h with h; subst h
        cases hb : (owns own (.slot v) && appDst ops dst) <;> rw [hb] at hs
        · exact hs
        · exact (mem_drop.1 hs).1
      | _ => cases he
    case load t a =>
      simp only [core] at h
      cases hp : evalO env a with
      | none => rw [hp] at h; cases h
      | some p =>
        rw [hp] at h
        simp only at h
        cases hl : loadA P H t p with
        | none => rw [hl] at h; cases h
        | some x =>
          rw [hl] at h
          simp only at h
          cases p with
          | ptr id off =>
            simp only at h
            injection h with h; subst h
            cases hb : (owns own (.cell id off) && appDst ops dst && (sizeT P t == some 1) && (isAggT P t == some false)) <;> rw [hb] at hs
            · exact hs
            · exact (mem_drop.1 hs).1
          | _ =>
            simp only at h
            injection h with h; subst h
            exact hs
    case assign x =>
      simp only [core] at h
      cases hv : evalO env x with
      | none => rw [hv] at h; cases h
      | some v =>
        rw [hv] at h
        cases x with
        | tmp s' =>
          simp only at h
          injection h with h; subst h
          cases hb : owns own (.slot s') <;> rw [hb] at hs
          · exact hs
          · exact (mem_drop.1 hs).1
        | _ =>
          simp only at h
          injection h with h; subst h
          exact hs
    case buildSlice t len parts =>
      simp only [core] at h
      split at h
      · split at h
        · split at h
          · split at h
            · split at h
              · injection h with h; subst h; exact hs
              · cases h
            · cases h
          · cases h
        · cases h
      · cases h
    case makeSlice t l c =>
      simp only [core] at h
      split at h
      · split at h
        · split at h
          · split at h
            · injection h with h; subst h; exact hs
            · cases h
          · cases h
        · cases h
      · cases h
    case store t a x =>
      simp only [core] at h
      split at h
      · split at h
        · injection h with h; subst h
          rename_i id off v _ _ _ _ _
          have hd : ∀ n, Loc.slot s ∈ dropCells own id off n → Loc.slot s ∈ own := fun n hm => (List.mem_filter.1 hm).1
          cases x with
          | tmp q =>
            simp only at hs
            cases hb : (owns own (.slot q) && v.isOne) <;> rw [hb] at hs
            · exact hd _ hs
            · simp only [cond_true] at hs
              rcases mem_give.1 hs with e | ⟨e, _⟩
              · cases e
              · exact hd _ (mem_drop.1 e).1
          | _ => exact hd _ hs
        · cases h
      · cases h
    case call c =>
      obtain ⟨callee, args, at_⟩ := c
      cases callee with
      | value f =>
        simp only [core] at h
        split at h
        · exact hcallA _ _ h
        · cases h
      | invoke rv name =>
        simp only [core] at h
        split at h
        · split at h
          · exact hcallA _ _ h
          · cases h
        · cases h
      | builtin b =>
        cases b
        case append =>
          simp only [core] at h
          split at h
          · unfold appendA at h
            split at h
            · split at h
              · split at h
                · split at h
                  · injection h with h; subst h; exact hs
                  · cases h
                · split at h
                  · split at h
                    · injection h with h; subst h; exact (mem_drop.1 hs).1
                    · cases h
                  · cases h
                · cases h
              · cases h
            · cases h
          · cases h
        all_goals cases he
    all_goals cases he

/-! ### ends that are as good as each other -/
def Like (S : Nat → Prop) (own own' : List Loc) : Prop := ∀ l, (∀ s, l = .slot s → ¬ S s) → (l ∈ own ↔ l ∈ own')
theorem like_owns {S : Nat → Prop} {own own' : List Loc} {l : Loc} (h : Like S own own') (hl : ∀ s, l = .slot s → ¬ S s) : owns own l = owns own' l := by
  rw [Bool.eq_iff_iff, owns_iff, owns_iff]; exact h l hl
theorem Like.drop {S : Nat → Prop} {own own' : List Loc} (h : Like S own own') (l : Loc) : Like S (Am.drop own l) (Am.drop own' l) := by
  intro m hm; rw [mem_drop, mem_drop, h m hm]
theorem Like.give {S : Nat → Prop} {own own' : List Loc} (h : Like S own own') (l : Loc) : Like S (Am.give own l) (Am.give own' l) := by
  intro m hm; rw [mem_give, mem_give, h m hm]
theorem Like.cells {S : Nat → Prop} {own own' : List Loc} (h : Like S own own') (id off n : Nat) : Like S (dropCells own id off n) (dropCells own' id off n) := by
  intro m hm; unfold dropCells; rw [List.mem_filter, List.mem_filter, h m hm]

/-- What 'core' answers with the one, it answers with the other. -/
theorem core_frame {S : Nat → Prop} {env : List (Nat × AV)} {H : List (Option Blk)} {own own' : List Loc} {o : Oper} {r : Res} (hS : ∀ s, S s → s ∉ opSlots o) (hl : Like S own own') (h : core call P ops o env H own = some r) :
    ∃ oo, core call P ops o env H own' = some ⟨r.val, r.H, oo, r.gives⟩ ∧ Like S r.own oo ∧ ∀ s, S s → (Loc.slot s ∈ r.own ↔ Loc.slot s ∈ own) ∧ (Loc.slot s ∈ oo ↔ Loc.slot s ∈ own') := by
  cases he : ends ops o with
  | false =>
    obtain ⟨h1, h2⟩ := core_own he h
    exact ⟨own', h2 own', h1 ▸ hl, fun s _ => ⟨by rw [h1], Iff.rfl⟩⟩
  | true =>
    have hcell : ∀ id off, ∀ s, Loc.cell id off = .slot s → ¬ S s := fun id off s e => by cases e
    have hdropS : ∀ (l : Loc) (oo : List Loc), (∀ s, l = .slot s → ¬ S s) → ∀ s, S s → (Loc.slot s ∈ drop oo l ↔ Loc.slot s ∈ oo) := by
      intro l oo hl s hs
      rw [mem_drop]
      exact ⟨fun h => h.1, fun h => ⟨h, fun e => hl s e.symm hs⟩⟩
    have hcellS : ∀ (oo : List Loc) id off n, ∀ s, S s → (Loc.slot s ∈ dropCells oo id off n ↔ Loc.slot s ∈ oo) := by
      intro oo id off n s hs
      unfold dropCells
      rw [List.mem_filter]
      exact ⟨fun h => h.1, fun h => ⟨h, rfl⟩⟩
    have hcallA : ∀ f args, callA call P H own f args = some r → ∃ oo, callA call P H own' f args = some ⟨r.val, r.H, oo, r.gives⟩ ∧ Like S r.own oo ∧ ∀ s, S s → (Loc.slot s ∈ r.own ↔ Loc.slot s ∈ own) ∧ (Loc.slot s ∈ oo ↔ Loc.slot s ∈ own') := by
      intro f args hc
      unfold callA at hc ⊢
      cases hb : hasBody P f with
      | false => rw [hb] at hc; cases hc
      | true =>
        rw [hb] at hc
        simp only [cond_true] at hc ⊢
        have hcan : canon (own.filter Loc.isCell) = canon (own'.filter Loc.isCell) := by
          refine canon_ext fun x => ?_
          rw [List.mem_filter, List.mem_filter]
          cases x with
          | slot s => simp [Loc.isCell]
          | cell id off => rw [hl _ (hcell id off)]
        rw [← hcan]
        split at hc
        · rename_i x H' own1 hcl
          injection hc with hc; subst hc
          refine ⟨_, rfl, ?_, ?_⟩
          · intro m hm
            simp only [List.mem_append, List.mem_filter, hl m hm]
          · intro s hs
            have key : ∀ oo : List Loc, (Loc.slot s ∈ oo.filter (fun l => !l.isCell) ++ own1.filter Loc.isCell ↔ Loc.slot s ∈ oo) := by
              intro oo
              rw [List.mem_append, List.mem_filter, List.mem_filter]
              simp [Loc.isCell]
            exact ⟨key own, key own'⟩
        · cases hc
    obtain ⟨dst, op, ty, pos, after, guard⟩ := o
    have hop : ∀ s, .tmp s ∈ op.operands.toList → ∀ q, Loc.slot s = .slot q → ¬ S q := by
      intro s hm q e hq
      injection e with e; subst e
      exact hS s hq (by unfold opSlots; exact List.mem_filterMap.2 ⟨_, hm, rfl⟩)
    cases op
    case move x =>
      cases x with
      | tmp v =>
        have hv := hop v (by simp [Op.operands])
        simp only [core] at h ⊢
        rw [← like_owns hl hv]
        injection h with h; subst h
        cases hb : (owns own (.slot v) && appDst ops dst)
        · exact ⟨_, rfl, hl, fun s _ => ⟨Iff.rfl, Iff.rfl⟩⟩
        · exact ⟨_, rfl, hl.drop _, fun s hs => ⟨hdropS _ _ hv s hs, hdropS _ _ hv s hs⟩⟩
      | _ => cases he
    case load t a =>
      simp only [core] at h ⊢
      cases hp : evalO env a with
      | none => rw [hp] at h; cases h
      | some p =>
        rw [hp] at h
        simp only at h ⊢
        cases hld : loadA P H t p with
        | none => rw [hld] at h; cases h
        | some x =>
          rw [hld] at h
          simp only at h ⊢
          cases p with
          | ptr id off =>
            simp only at h ⊢
            rw [← like_owns hl (hcell id off)]
            injection h with h; subst h
            cases hb : (owns own (.cell id off) && appDst ops dst && (sizeT P t == some 1) && (isAggT P t == some false))
            · exact ⟨_, rfl, hl, fun s _ => ⟨Iff.rfl, Iff.rfl⟩⟩
            · exact ⟨_, rfl, hl.drop _, fun s hs => ⟨hdropS _ _ (hcell id off) s hs, hdropS _ _ (hcell id off) s hs⟩⟩
          | _ =>
            simp only at h ⊢
            injection h with h; subst h
            exact ⟨_, rfl, hl, fun s _ => ⟨Iff.rfl, Iff.rfl⟩⟩
    case assign x =>
      simp only [core] at h ⊢
      cases hv : evalO env x with
      | none => rw [hv] at h; cases h
      | some v =>
        rw [hv] at h
        cases x with
        | tmp s' =>
          have hs' := hop s' (by simp [Op.operands])
          simp only at h ⊢
          rw [← like_owns hl hs']
          injection h with h; subst h
          cases hb : owns own (.slot s')
          · exact ⟨_, rfl, hl, fun s _ => ⟨Iff.rfl, Iff.rfl⟩⟩
          · exact ⟨_, rfl, hl.drop _, fun s hs => ⟨hdropS _ _ hs' s hs, hdropS _ _ hs' s hs⟩⟩
        | _ =>
          simp only at h ⊢
          injection h with h; subst h
          exact ⟨_, rfl, hl, fun s _ => ⟨Iff.rfl, Iff.rfl⟩⟩
    case store t a x =>
      simp only [core] at h ⊢
      split at h
      · rename_i id off v h1 h2
        split at h
        · rename_i H' h3
          injection h with h; subst h
          simp only [h3]
          cases x with
          | tmp q =>
            have hq := hop q (by simp [Op.operands])
            simp only
            rw [← like_owns hl hq]
            cases hb : (owns own (.slot q) && v.isOne)
            · exact ⟨_, rfl, hl.cells _ _ _, fun s hs => ⟨hcellS _ _ _ _ s hs, hcellS _ _ _ _ s hs⟩⟩
            · refine ⟨_, rfl, ((hl.cells _ _ _).drop _).give _, fun s hs => ?_⟩
              have key : ∀ oo : List Loc, (Loc.slot s ∈ give (drop (dropCells oo id off v.cells.length) (.slot q)) (.cell id off) ↔ Loc.slot s ∈ oo) := by
                intro oo
                rw [mem_give]
                constructor
                · rintro (e | ⟨e, _⟩)
                  · cases e
                  · exact (hcellS _ _ _ _ s hs).1 ((hdropS _ _ hq s hs).1 e)
                · intro e
                  exact .inr ⟨(hdropS _ _ hq s hs).2 ((hcellS _ _ _ _ s hs).2 e), by intro e; cases e⟩
              exact ⟨key own, key own'⟩
          | _ => exact ⟨_, rfl, hl.cells _ _ _, fun s hs => ⟨hcellS _ _ _ _ s hs, hcellS _ _ _ _ s hs⟩⟩
        · cases h
      · cases h
    case call c =>
      obtain ⟨callee, args, at_⟩ := c
      cases callee with
      | value f =>
        simp only [core] at h ⊢
        split at h
        · exact hcallA _ _ h
        · cases h
      | invoke rv name =>
        simp only [core] at h ⊢
        split at h
        · split at h
          · exact hcallA _ _ h
          · cases h
        · cases h
      | builtin b =>
        cases b
        case append =>
          simp only [core] at h ⊢
          split at h
          · rename_i s x ts tx ha hb
            have hs' : ∀ t, s = .tmp t → ∀ q, Loc.slot t = .slot q → ¬ S q := fun t e => hop t (by simp only [Op.operands, Call.operands, Array.toList_append, ha, e]; simp)
            unfold appendA at h ⊢
            split at h
            · rename_i e a b h3 h4 h5
              split at h
              · rename_i ys i z h6 h7 h8
                split at h
                · split at h
                  · rename_i hc
                    injection h with h; subst h
                    exact ⟨_, by simp only [h6, h7, h8, if_pos hc], hl, fun s _ => ⟨Iff.rfl, Iff.rfl⟩⟩
                  · cases h
                · split at h
                  · rename_i t
                    split at h
                    · rename_i hc
                      injection h with h; subst h
                      refine ⟨_, by simp only [h6, h7, h8]; rw [← like_owns hl (hs' t rfl)]; simp only [if_pos hc], hl.drop _, fun s hs => ⟨hdropS _ _ (hs' t rfl) s hs, hdropS _ _ (hs' t rfl) s hs⟩⟩
                    · cases h
                  · cases h
                · cases h
              · cases h
            · cases h
          · cases h
        all_goals cases he
    all_goals cases he

end
end Go.Proofs.Ytnajopkaepjncaa.Am
