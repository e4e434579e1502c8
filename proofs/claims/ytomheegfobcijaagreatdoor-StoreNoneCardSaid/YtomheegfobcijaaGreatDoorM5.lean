/- The abstract machine is right, nineteenth part: regions that draw the order of their operations. -/
import Derived.Test.YtomheegfobcijaaGreatDoorM4
import Derived.Orders
import Derived.Test.YtomheegfobcijaaGreatDoorProg
import Derived.Test.YtomheegfobcijaaGreatDoorChecked
import GoSem.ClaimChange
import Derived.ChangeReads
import Derived.RowKit
/- The abstract machine is right, nineteenth part: regions that draw the order of their operations. -/
namespace Go.Proofs.YtomheegfobcijaaGreatDoor.Am
set_option linter.unusedVariables false
set_option linter.unusedSimpArgs false
open Go.RowKit

section
variable {P : Program} {call : CallA} {nt : Nat} {B : Fr}

/-! ### what the text of a region says -/
def Listed (l : Array Bool) (k : Nat) : Prop := l.getD k false = true
def Heard (ops : List Oper) (l : Array Bool) (j : Nat) : Prop := ∀ o, ops[j]? = some o → ∀ e ∈ o.after.toList, Region.binds .any e = true → Listed l e.on

theorem ahead_bit (acc : List Nat) (k : Nat) : ∀ (l : List Edge) (m : Nat), (ahead acc l m).testBit k = true → m.testBit k = true ∨ ∃ e ∈ l, Region.binds .any e = true ∧ (k = e.on ∨ (acc.getD e.on 0).testBit k = true)
  | [], m, h => .inl h
  | e :: r, m, h => by
    rcases ahead_bit acc k r _ h with h | ⟨e', h1, h2⟩
    · cases hb : Region.binds .any e with
      | false => rw [hb] at h; exact .inl h
      | true =>
        rw [hb] at h
        simp only [cond_true, Nat.testBit_or, Bool.or_eq_true] at h
        rcases h with (h | h) | h
        · exact .inl h
        · refine .inr ⟨e, by simp, hb, .inl ?_⟩
          rw [Nat.testBit_shiftLeft, Bool.and_eq_true] at h
          have h2 := h.2
          have h1 : k ≥ e.on := by simpa using h.1
          rcases Nat.eq_zero_or_pos (k - e.on) with h0 | h0
          · omega
          · obtain ⟨q, hq⟩ : ∃ q, k - e.on = q + 1 := ⟨k - e.on - 1, by omega⟩
            rw [hq] at h2
            simp [Nat.testBit_succ] at h2
        · exact .inr ⟨e, by simp, hb, .inr h⟩
    · exact .inr ⟨e', by simp [h1], h2⟩

theorem befores_heard {ops : List Oper} {l : Array Bool} (hcl : ∀ k, Listed l k → Heard ops l k) : ∀ (r : List Oper) (acc : List Nat), (∀ k, r[k]? = ops[acc.length + k]?) → (∀ j, Heard ops l j → ∀ k, (acc.getD j 0).testBit k = true → Listed l k) →
    ∀ j, Heard ops l j → ∀ k, ((befores r acc).getD j 0).testBit k = true → Listed l k
  | [], acc, _, h => h
  | o :: r, acc, hr, h => by
    refine befores_heard hcl r _ (fun k => ?_) ?_
    · have := hr (k + 1)
      rw [List.length_append]
      simp only [List.length_cons, List.length_nil]
      rw [← (by omega : acc.length + (k + 1) = acc.length + (0 + 1) + k)]
      simpa using this
    · intro j hj k hk
      rw [List.getD_eq_getElem?_getD] at hk
      rcases Nat.lt_trichotomy j acc.length with hlt | rfl | hgt
      · rw [List.getElem?_append_left hlt, ← List.getD_eq_getElem?_getD] at hk
        exact h j hj k hk
      · rw [List.getElem?_append_right (Nat.le_refl _), Nat.sub_self] at hk
        simp only [List.getElem?_cons_zero, Option.getD_some] at hk
        have ho : ops[acc.length]? = some o := by have := hr 0; simpa using this.symm
        rcases ahead_bit acc k _ _ hk with h0 | ⟨e, he, hb, hk⟩
        · simp at h0
        · have hl := hj o ho e he hb
          rcases hk with rfl | hk
          · exact hl
          · exact h e.on (hcl _ hl) k hk
      · rw [List.getElem?_append_right (by omega)] at hk
        obtain ⟨q, hq⟩ : ∃ q, j - acc.length = q + 1 := ⟨j - acc.length - 1, by omega⟩
        rw [hq] at hk
        simp at hk

theorem region_back {ops : List Oper} (h : regionOk ops = true) {j : Nat} {o : Oper} (ho : ops[j]? = some o) (e : Edge) (he : e ∈ o.after.toList) (hb : Region.binds .any e = true) : e.on < j := by
  unfold regionOk at h
  simp only [Bool.and_eq_true] at h
  have := List.all_eq_true.1 h.1.1 (o, j) (List.mem_zipIdx_iff_getElem?.2 ho)
  have := List.all_eq_true.1 this e he
  rw [hb] at this
  simp only [Bool.not_true, Bool.false_or] at this
  exact Nat.blt_eq.mp this
theorem region_pair {ops : List Oper} (h : regionOk ops = true) {i j : Nat} {x y : Oper} (hx : ops[i]? = some x) (hy : ops[j]? = some y) (hij : i < j) :
    pairOk ops (befores ops []) i j x y = true ∧ ∀ d, x.dst = some d → y.dst ≠ some d := by
  unfold regionOk at h
  simp only [Bool.and_eq_true] at h
  have := List.all_eq_true.1 h.2 (y, j) (List.mem_zipIdx_iff_getElem?.2 hy)
  have := List.all_eq_true.1 this (x, i) (List.mem_zipIdx_iff_getElem?.2 hx)
  simp only at this
  have hb : Nat.blt i j = true := Nat.blt_eq.mpr hij
  rw [hb] at this
  simp only [Bool.not_true, Bool.false_or, Bool.and_eq_true] at this
  refine ⟨this.1, fun d e1 e2 => ?_⟩
  have h2 := this.2
  rw [e1] at h2
  simp only [e2, beq_self_eq_true, Bool.not_true] at h2
  cases h2
theorem noLoad {o : Oper} (h : heapOp o = true) : ¬ isLoad o = true := by
  intro hl
  obtain ⟨dst, op, ty, pos, after, guard⟩ := o
  unfold isLoad at hl
  split at hl
  · rename_i e; simp only at e; subst e; simp [heapOp, slOp, slTy, isMapU] at h
  · rename_i e; simp only at e; subst e; simp [heapOp, slOp, slTy, isMapU] at h
  · cases hl
theorem noAlloc {o : Oper} (h : heapOp o = true) : ¬ allocOp o = true := by
  intro hl
  obtain ⟨dst, op, ty, pos, after, guard⟩ := o
  unfold allocOp at hl
  split at hl
  · rename_i e; simp only at e; subst e; simp [heapOp, slOp, slTy, isMapU] at h
  · rename_i e; simp only at e; subst e; simp [heapOp, slOp, slTy, isMapU] at h
  · rename_i e; simp only at e; subst e; simp [heapOp, slOp, slTy, isMapU] at h
  · cases hl
theorem mix_at {ops : List Oper} {i j : Nat} {x y : Oper} (hij : i < j) (hx : ops[i]? = some x) (hy : ops[j]? = some y) (hn : ¬ ((befores ops []).getD j 0).testBit i = true) : (isCallV x = true ∧ (ldHard ops y = true ∨ allocOp y = true) → mixAt ops x = true) ∧ (ldHard ops x = true ∧ isCallV y = true → mixAt ops y = true) := by
  have hnf : (((befores ops []).getD j 0).testBit i) = false := by simpa using hn
  constructor
  · rintro ⟨h1, h2⟩
    unfold mixAt mixD
    split
    · rename_i d hd
      refine List.any_eq_true.2 ⟨(y, j), List.mem_zipIdx_iff_getElem?.2 hy, List.any_eq_true.2 ⟨(x, i), List.mem_zipIdx_iff_getElem?.2 hx, ?_⟩⟩
      simp only [Nat.blt_eq.mpr hij, hnf, Bool.not_false, Bool.true_and, hd, beq_self_eq_true, h1]
      rcases h2 with h2 | h2 <;> simp [h2]
    · rfl
  · rintro ⟨h1, h2⟩
    unfold mixAt mixD
    split
    · rename_i d hd
      refine List.any_eq_true.2 ⟨(y, j), List.mem_zipIdx_iff_getElem?.2 hy, List.any_eq_true.2 ⟨(x, i), List.mem_zipIdx_iff_getElem?.2 hx, ?_⟩⟩
      simp only [Nat.blt_eq.mpr hij, hnf, Bool.not_false, Bool.true_and, hd, beq_self_eq_true, h1, h2, Bool.or_true]
    · rfl
theorem watch_at {ops : List Oper} {i j : Nat} {x y : Oper} (hij : i < j) (hx : ops[i]? = some x) (hy : ops[j]? = some y) (hn : ¬ ((befores ops []).getD j 0).testBit i = true) (hm : mixed ops = true) : (∀ s, isCallV x = true → plainLd ops y = some s → s ∈ wSlots ops x) ∧ ∀ s, isCallV y = true → plainLd ops x = some s → s ∈ wSlots ops y := by
  have hnf : (((befores ops []).getD j 0).testBit i) = false := by simpa using hn
  have hsd : ∀ d : Option Nat, sameD d d = true := by
    intro d
    cases d with
    | none => rfl
    | some d => simp [sameD]
  constructor
  · intro s h1 h2
    unfold wSlots
    rw [h1, hm]
    refine List.mem_flatMap.2 ⟨(y, j), List.mem_zipIdx_iff_getElem?.2 hy, List.mem_flatMap.2 ⟨(x, i), List.mem_zipIdx_iff_getElem?.2 hx, ?_⟩⟩
    simp only [Nat.blt_eq.mpr hij, hnf, Bool.not_false, Bool.and_self, cond_true, hsd, h1, h2, Option.toList_some]
    simp
  · intro s h1 h2
    unfold wSlots
    rw [h1, hm]
    refine List.mem_flatMap.2 ⟨(y, j), List.mem_zipIdx_iff_getElem?.2 hy, List.mem_flatMap.2 ⟨(x, i), List.mem_zipIdx_iff_getElem?.2 hx, ?_⟩⟩
    simp only [Nat.blt_eq.mpr hij, hnf, Bool.not_false, Bool.and_self, cond_true, hsd, h1, h2, Option.toList_some]
    simp
theorem plain_op {ops : List Oper} {y : Oper} {q : Nat} (h : plainLd ops y = some q) (hm : mixed ops = true) : ∃ t s, y.op = .load t (.tmp s) ∧ q ∈ bSlots ops y := by
  have hb : q ∈ bSlots ops y := by unfold bSlots; rw [hm, h]; simp
  unfold plainLd at h
  split at h
  · rename_i t s e
    exact ⟨t, s, e, hb⟩
  · cases h
theorem load_cases {ops : List Oper} {y : Oper} (h : isLoad y = true) : (∃ s, plainLd ops y = some s) ∨ ldHard ops y = true := by
  cases hp : plainLd ops y with
  | some s => exact .inl ⟨s, rfl⟩
  | none => exact .inr (by unfold ldHard; rw [h, hp]; rfl)
theorem end_hard {ops : List Oper} {y : Oper} (h : isLd y = true) (he : ends ops y = true) : ldHard ops y = true := by
  obtain ⟨dst, op, ty, pos, after, guard⟩ := y
  unfold isLd at h
  split at h
  · rename_i t a e
    simp only at e; subst e
    have hd : appDst ops dst = true := he
    unfold ldHard plainLd
    cases a with
    | tmp s => simp only [hd, cond_true]; rfl
    | _ => rfl
  · cases h
theorem late_at {ops : List Oper} {i j : Nat} {x y : Oper} (hij : i < j) (hx : ops[i]? = some x) (hy : ops[j]? = some y) (hn : ¬ ((befores ops []).getD j 0).testBit i = true) : (isStore x = true ∧ isLoad y = true → lateD ops y.dst = true ∧ ∀ s, stSlot x = some s → lateP ops y.dst s = true) ∧ (isLoad x = true ∧ isStore y = true → lateD ops x.dst = true ∧ ∀ s, stSlot y = some s → lateP ops x.dst s = true) := by
  have hnf : (((befores ops []).getD j 0).testBit i) = false := by simpa using hn
  constructor
  · rintro ⟨h1, h2⟩
    refine ⟨?_, fun s hs => ?_⟩
    · unfold lateD
      split
      · rename_i d hd
        refine List.any_eq_true.2 ⟨(y, j), List.mem_zipIdx_iff_getElem?.2 hy, List.any_eq_true.2 ⟨(x, i), List.mem_zipIdx_iff_getElem?.2 hx, ?_⟩⟩
        simp only [Nat.blt_eq.mpr hij, hnf, Bool.not_false, Bool.true_and, hd, beq_self_eq_true, h1, h2, Bool.or_true]
      · rfl
    · unfold lateP
      split
      · rename_i d hd
        refine List.any_eq_true.2 ⟨(y, j), List.mem_zipIdx_iff_getElem?.2 hy, List.any_eq_true.2 ⟨(x, i), List.mem_zipIdx_iff_getElem?.2 hx, ?_⟩⟩
        simp only [Nat.blt_eq.mpr hij, hnf, Bool.not_false, Bool.true_and, hd, beq_self_eq_true, h1, h2, hs, Bool.or_true]
      · rfl
  · rintro ⟨h1, h2⟩
    refine ⟨?_, fun s hs => ?_⟩
    · unfold lateD
      split
      · rename_i d hd
        refine List.any_eq_true.2 ⟨(y, j), List.mem_zipIdx_iff_getElem?.2 hy, List.any_eq_true.2 ⟨(x, i), List.mem_zipIdx_iff_getElem?.2 hx, ?_⟩⟩
        simp only [Nat.blt_eq.mpr hij, hnf, Bool.not_false, Bool.true_and, hd, beq_self_eq_true, h1, h2, Bool.true_or]
      · rfl
    · unfold lateP
      split
      · rename_i d hd
        refine List.any_eq_true.2 ⟨(y, j), List.mem_zipIdx_iff_getElem?.2 hy, List.any_eq_true.2 ⟨(x, i), List.mem_zipIdx_iff_getElem?.2 hx, ?_⟩⟩
        simp only [Nat.blt_eq.mpr hij, hnf, Bool.not_false, Bool.true_and, hd, beq_self_eq_true, h1, h2, hs, Bool.true_or]
      · rfl
theorem pair_unord {ops : List Oper} {i j : Nat} {x y : Oper} {lt : Option WS} (hlt : lt.isSome = late ops) (hij : i < j) (hx : ops[i]? = some x) (hy : ops[j]? = some y) (h : pairOk ops (befores ops []) i j x y = true) (hn : ¬ ((befores ops []).getD j 0).testBit i = true) : Unord ops lt (mixed ops) x y := by
  obtain ⟨m1, m2⟩ := mix_at hij hx hy hn
  obtain ⟨l1, l2⟩ := late_at hij hx hy hn
  unfold pairOk at h
  rw [Bool.or_eq_true] at h
  rcases h with h | h
  · exact absurd h hn
  · simp only [Bool.and_eq_true] at h
    obtain ⟨⟨⟨h1, h2⟩, h3⟩, h4⟩ := h
    refine ⟨?_, ?_, ?_, ?_, ?_⟩
    · intro d hd
      rw [hd] at h1
      simp only [Bool.not_eq_true', Bool.or_eq_false_iff] at h1
      refine ⟨fun hm => ?_, fun e => ?_⟩
      · rw [List.contains_iff_mem.2 hm] at h1; cases h1.1
      · rw [e] at h1; simp at h1
    · intro d hd hm
      rw [hd] at h2
      simp only [Bool.not_eq_true'] at h2
      rw [List.contains_iff_mem.2 hm] at h2; cases h2
    · cases e1 : ends ops x with
      | false => exact .inl rfl
      | true =>
        cases e2 : ends ops y with
        | false => exact .inr (.inl rfl)
        | true =>
          rw [e1, e2] at h3
          simp only [Bool.and_self, Bool.not_true, Bool.false_or, Bool.or_eq_true, Bool.and_eq_true] at h3
          rcases h3 with h3 | ⟨h5, h6⟩
          · exact .inr (.inr (.inl h3))
          · unfold ldCall at h6
            simp only [Bool.or_eq_true, Bool.and_eq_true] at h6
            rcases h6 with ⟨h6, h7⟩ | ⟨h6, h7⟩
            · exact .inr (.inr (.inr ⟨h5, .inl ⟨h6, m1 ⟨h6, .inl (end_hard h7 e2)⟩, h7⟩⟩))
            · exact .inr (.inr (.inr ⟨h5, .inr ⟨h6, h7, m2 ⟨end_hard h6 e1, h7⟩⟩⟩))
    · intro e1
      cases e2 : memOp y with
      | false => exact .inr (.inl rfl)
      | true =>
        rw [e1, e2] at h4
        simp only [Bool.and_self, Bool.true_or, Bool.not_true, Bool.false_or, Bool.and_eq_true, Bool.or_eq_true] at h4
        rcases h4 with ⟨h5, h6 | h6⟩ | ⟨h5, h6 | h6⟩
        · exact .inr (.inr (.inl ⟨Option.isSome_iff_exists.1 (hlt.trans h5), h6.1, h6.2, (l1 h6).1, (l1 h6).2⟩))
        · exact absurd h6.1 (noLoad e1)
        · rcases h6.2 with h7 | h7
          · rcases load_cases (ops := ops) h7 with ⟨s, h8⟩ | h8
            · obtain ⟨t, s', h9, h10⟩ := plain_op h8 h5
              exact .inl ⟨h6.1, t, s', s, h9, h10, (watch_at hij hx hy hn h5).1 s h6.1 h8⟩
            · exact .inr (.inr (.inr ⟨⟨h5, m1 ⟨h6.1, .inl h8⟩⟩, h6.1, h6.2⟩))
          · exact .inr (.inr (.inr ⟨⟨h5, m1 ⟨h6.1, .inr h7⟩⟩, h6.1, h6.2⟩))
        · exact absurd h6.1 (noLoad e1)
    · intro e1
      cases e2 : memOp x with
      | false => exact .inr (.inl rfl)
      | true =>
        rw [e1, e2] at h4
        simp only [Bool.and_self, Bool.or_true, Bool.not_true, Bool.false_or, Bool.and_eq_true, Bool.or_eq_true] at h4
        rcases h4 with ⟨h5, h6 | h6⟩ | ⟨h5, h6 | h6⟩
        · exact absurd h6.2 (noLoad e1)
        · exact .inr (.inr (.inl ⟨Option.isSome_iff_exists.1 (hlt.trans h5), h6.2, h6.1, (l2 h6).1, (l2 h6).2⟩))
        · rcases h6.2 with h | h
          · exact absurd h (noLoad e1)
          · exact absurd h (noAlloc e1)
        · rcases load_cases (ops := ops) h6.1 with ⟨s, h8⟩ | h8
          · obtain ⟨t, s', h9, h10⟩ := plain_op h8 h5
            exact .inl ⟨h6.2, t, s', s, h9, h10, (watch_at hij hx hy hn h5).2 s h6.2 h8⟩
          · exact .inr (.inr (.inr ⟨⟨h5, m2 ⟨h8, h6.2⟩⟩, h6.2, h6.1⟩))

/-! ### what is still to be done -/
def rest (n : Nat) (l : Array Bool) : List Nat := (List.range n).filter fun k => !l.getD k true
def opsAt (ops : Array Oper) (L : List Nat) : List Oper := L.filterMap fun k => ops[k]?

theorem rest_sorted (n : Nat) (l : Array Bool) : (rest n l).Pairwise (· < ·) := List.Pairwise.filter _ (List.pairwise_lt_range)
theorem mem_rest {n : Nat} {l : Array Bool} (hl : l.size = n) {k : Nat} : k ∈ rest n l ↔ k < n ∧ ¬ Listed l k := by
  unfold rest Listed
  simp only [List.mem_filter, List.mem_range, Bool.not_eq_true']
  constructor
  · rintro ⟨h1, h2⟩
    refine ⟨h1, ?_⟩
    simp only [Array.getD_eq_getD_getElem?] at *
    rw [Array.getElem?_eq_getElem (by omega)] at *
    simp only [Option.getD_some] at *
    rw [h2]; simp
  · rintro ⟨h1, h2⟩
    refine ⟨h1, ?_⟩
    simp only [Array.getD_eq_getD_getElem?] at *
    rw [Array.getElem?_eq_getElem (by omega)] at *
    simpa using h2
theorem rest_take {n : Nat} {l : Array Bool} {i : Nat} {A B : List Nat} (hl : l.size = n) (h : rest n l = A ++ i :: B) : rest n (l.setIfInBounds i true) = A ++ B := by
  have hs := rest_sorted n l
  rw [h] at hs
  have hin : i ∈ rest n l := by rw [h]; simp
  have h1 : rest n (l.setIfInBounds i true) = (rest n l).filter (fun k => !(k == i)) := by
    unfold rest
    rw [List.filter_filter]
    apply List.filter_congr
    intro k hk
    by_cases hki : k = i
    · subst hki
      have : k < l.size := by rw [hl]; exact ((mem_rest hl).1 hin).1
      simp [Array.getD_eq_getD_getElem?, this]
    · have : i ≠ k := fun e => hki e.symm
      simp [Array.getD_eq_getD_getElem?, Array.getElem?_setIfInBounds_ne this, hki]
  rw [h1, h, List.filter_append, List.filter_cons]
  rw [List.pairwise_append] at hs
  obtain ⟨_, hs2, hs3⟩ := hs
  rw [List.pairwise_cons] at hs2
  have hA : A.filter (fun k => !(k == i)) = A := List.filter_eq_self.2 fun k hk => by
    have := hs3 k hk i (by simp)
    simp; omega
  have hB : B.filter (fun k => !(k == i)) = B := List.filter_eq_self.2 fun k hk => by
    have := hs2.1 k hk
    simp; omega
  rw [hA, hB]; simp
theorem listed_set {l : Array Bool} {i k : Nat} (h : Listed (l.setIfInBounds i true) k) : Listed l k ∨ k = i := by
  by_cases hki : k = i
  · exact .inr hki
  · have : i ≠ k := fun e => hki e.symm
    unfold Listed at *
    rw [Array.getD_eq_getD_getElem?, Array.getElem?_setIfInBounds_ne this, ← Array.getD_eq_getD_getElem?] at h
    exact .inl h
theorem listed_more {l : Array Bool} {i k : Nat} (h : Listed l k) : Listed (l.setIfInBounds i true) k := by
  unfold Listed at *
  rw [Array.getD_eq_getD_getElem?] at *
  by_cases hki : k = i
  · subst hki
    cases hk : l[k]? with
    | none => rw [hk] at h; cases h
    | some b =>
      have : k < l.size := (Array.getElem?_eq_some_iff.1 hk).1
      rw [Array.getElem?_setIfInBounds_self_of_lt this]; rfl
  · rw [Array.getElem?_setIfInBounds_ne (fun e => hki e.symm)]; exact h

theorem ready_iff {ops : Array Oper} {l : Array Bool} {i : Nat} (hl : l.size = ops.size) : i ∈ Region.ready .any ops l ↔ i ∈ rest ops.size l ∧ Heard ops.toList l i := by
  unfold Region.ready rest
  simp only [List.mem_filter, List.mem_range, Bool.and_eq_true, Bool.not_eq_true']
  constructor
  · rintro ⟨h1, h2, h3⟩
    refine ⟨⟨h1, h2⟩, ?_⟩
    intro o ho e he hb
    rw [Array.getElem?_toList] at ho
    rw [ho] at h3
    simp only [Option.map_some, Option.getD_some] at h3
    have := (Array.all_eq_true'.1 h3) e (by simpa using he)
    rw [hb] at this
    simp only [Bool.not_true, Bool.false_or] at this
    exact this
  · rintro ⟨⟨h1, h2⟩, h3⟩
    refine ⟨h1, h2, ?_⟩
    rw [Array.getElem?_eq_getElem h1]
    simp only [Option.map_some, Option.getD_some]
    refine Array.all_eq_true'.2 fun e he => ?_
    cases hb : Region.binds .any e with
    | false => rfl
    | true =>
      have := h3 ops[i] (by rw [Array.getElem?_toList, Array.getElem?_eq_getElem h1]) e (by simpa using he) hb
      simp only [Bool.not_true, Bool.false_or]
      exact this

theorem rest_ready {ops : Array Oper} {l : Array Bool} (hreg : regionOk ops.toList = true) (hl : l.size = ops.size) (hr : Region.ready .any ops l = []) : rest ops.size l = [] := by
  cases h : rest ops.size l with
  | nil => rfl
  | cons k r =>
    exfalso
    have hk : k ∈ rest ops.size l := by rw [h]; simp
    have hs := rest_sorted ops.size l
    rw [h, List.pairwise_cons] at hs
    have : k ∈ Region.ready .any ops l := by
      rw [ready_iff hl]
      refine ⟨hk, ?_⟩
      intro o ho e he hb
      have hlt := region_back hreg ho e he hb
      cases hx : l.getD e.on false with
      | true => exact hx
      | false =>
        have hm : e.on ∈ rest ops.size l := (mem_rest hl).2 ⟨by have := ((mem_rest hl).1 hk).1; omega, fun hc => by unfold Listed at hc; rw [hx] at hc; cases hc⟩
        rw [h] at hm
        rcases List.mem_cons.1 hm with e1 | e1
        · omega
        · have := hs.1 _ e1; omega
    rw [hr] at this
    cases this

theorem drew_rel {G : Gh} {st : St} {a : Act} {w : World} (n : Nat) (h : Rel P B G nt st a w) : Rel P B G nt st a { w with drawn := n } :=
  ⟨⟨h.ok.fin, h.ok.new, ⟨h.ok.held.lt, h.ok.held.is⟩⟩, ⟨h.heap.dom, h.heap.blk, h.heap.inj, h.heap.lim⟩, ⟨h.own.slot, h.own.cell, h.own.dom⟩, h.env, h.size, h.defers⟩
theorem drew_ext (G : Gh) (w : World) (n : Nat) : Ext G w G { w with drawn := n } :=
  ⟨rfl, rfl, rfl, Nat.le_refl _, fun _ _ _ h => h, fun _ _ h => h, fun _ => Nat.le_refl _, fun _ _ h => ⟨rfl, rfl, h, fun _ h => h⟩, rfl⟩
theorem Rel.eq {G : Gh} {st st' : St} {a : Act} {w : World} (h : Rel P B G nt st a w) (e : EqSt st st') : Rel P B G nt st' a w := by
  refine ⟨h.ok, e.H ▸ h.heap, ⟨?_, ?_, ?_⟩, ?_, h.size, by rw [← e.env]; exact h.defers⟩
  · intro s hs; rw [← e.env]; exact h.own.slot s ((e.own _).2 hs)
  · intro id off b k cs hm hf hk hb; exact h.own.cell id off b k cs ((e.own _).2 hm) hf (by rw [e.H]; exact hk) hb
  · intro id off hm; rw [← e.H]; exact h.own.dom id off ((e.own _).2 hm)
  · intro s; rw [← e.env]; exact h.env s

/-- Places are kept. -/
theorem rel_holes {G : Gh} {st : St} {a : Act} {w : World} (h : Rel P B G nt st a w) (m : Nat) : Rel P B G nt { st with H := st.H ++ List.replicate m none } a w := by
  have key : ∀ id b k, G.f id = some b → (st.H ++ List.replicate m none)[id]? = some (some k) → st.H[id]? = some (some k) := by
    intro id b k hf hk
    rw [List.getElem?_append_left (h.heap.dom id b hf).lt] at hk
    exact hk
  exact ⟨h.ok, ⟨fun id b hf => (h.heap.dom id b hf).append _, fun id b k hf hk => h.heap.blk id b k hf (key id b k hf hk), fun i j b k l h1 h2 h3 h4 => h.heap.inj i j b k l h1 h2 (key i b k h1 h3) (key j b l h2 h4), fun id b k hf hk => h.heap.lim id b k hf (key id b k hf hk)⟩,
    ⟨h.own.slot, fun id off b k cs hm hf hk hb => h.own.cell id off b k cs hm hf (key id b k hf hk) hb, fun id off hm => (h.own.dom id off hm).append _⟩, h.env, h.size, h.defers⟩

theorem any_sound {c : Oper → CallA} {ro : Option Nat} {m : Nat} {base : Nat} {ops : Array Oper} {lt : Option WS} (hlate : lt.isSome = late ops.toList) {st' : St} {G0 : Gh} {w0 : World} {Q : Exit → Act → World → Prop} (hN : NoNum P) (hcall : ∀ o, CallSound P (c o)) {lo : Nat} (hclo : ∀ o, (c o).lo = lo) (hgl : G0.lo ≤ lo) (hmx : mixed ops.toList = true → (∀ o, mixAt ops.toList o = true → FullLock (c o) ∧ CallFill (c o) ∧ CallOwn (c o)) ∧ ∀ o, CallLen (c o)) (hreg : regionOk ops.toList = true)
    (hQ : ∀ a' w' G', Rel P B G' nt st' a' w' → Ext G0 w0 G' w' → Q Exit.normal a' w') : ∀ (fuel : Nat) (l : Array Bool) (st stX : St) (G : Gh) (a : Act) (w : World), (rest ops.size l).length = fuel → l.size = ops.size →
      (∀ k, Listed l k → Heard ops.toList l k) → runOps c P nt (some (base, lt)) ops.toList (opsAt ops (rest ops.size l)) st = some stX → EqSt stX st' →
      (mixed ops.toList = true → base + allocs ops.toList ≤ st.H.length) → Rel P B G nt st a w → Ext G0 w0 G w → wpAnyIn (fw ro) m P .any ops Q fuel l a w := by
  intro fuel
  induction fuel with
  | zero =>
    intro l st stX G a w hf hl hcl hrun heq hba hR hE
    have hnil : rest ops.size l = [] := List.length_eq_zero_iff.1 hf
    rw [hnil] at hrun
    simp only [opsAt, List.filterMap_nil, runOps, Option.some.injEq] at hrun
    subst hrun
    refine ⟨?_, hQ a w G (hR.eq heq) hE⟩
    cases hr : Region.ready .any ops l with
    | nil => rfl
    | cons k r =>
      have : k ∈ Region.ready .any ops l := by rw [hr]; simp
      rw [ready_iff hl, hnil] at this
      cases this.1
  | succ fuel ih =>
    intro l st stX G a w hf hl hcl hrun heq hba hR hE
    refine ⟨fun h => ?_, ?_⟩
    · rw [rest_ready hreg hl h] at hf; simp at hf
    · intro i hi
      rw [ready_iff hl] at hi
      obtain ⟨hin, hheard⟩ := hi
      obtain ⟨A, B1, hAB⟩ := List.append_of_mem hin
      have hsorted := rest_sorted ops.size l
      rw [hAB] at hsorted
      have hlt := ((mem_rest hl).1 hin).1
      obtain ⟨o, ho⟩ : ∃ o, ops[i]? = some o := ⟨ops[i], Array.getElem?_eq_getElem hlt⟩
      have hsplit : opsAt ops (rest ops.size l) = opsAt ops A ++ o :: opsAt ops B1 := by
        rw [hAB]; unfold opsAt; rw [List.filterMap_append, List.filterMap_cons_some (f := fun k => ops[k]?) ho]
      have hnext : rest ops.size (l.setIfInBounds i true) = A ++ B1 := rest_take hl hAB
      rw [hsplit] at hrun
      rw [runOps_append] at hrun
      -- ahead of it
      have hun : ∀ x ∈ opsAt ops A, Unord ops.toList lt (mixed ops.toList) x o := by
        intro x hx
        unfold opsAt at hx
        obtain ⟨k, hk, hkx⟩ := List.mem_filterMap.1 hx
        have hkr : k ∈ rest ops.size l := by rw [hAB]; simp [hk]
        rw [List.pairwise_append] at hsorted
        have hki : k < i := hsorted.2.2 k hk i (by simp)
        obtain ⟨h1, h2⟩ := region_pair hreg (i := k) (j := i) (x := x) (y := o) (by rw [Array.getElem?_toList]; exact hkx) (by rw [Array.getElem?_toList]; exact ho) hki
        refine pair_unord hlate hki (by rw [Array.getElem?_toList]; exact hkx) (by rw [Array.getElem?_toList]; exact ho) h1 fun hm => ?_
        exact ((mem_rest hl).1 hkr).2 (befores_heard hcl ops.toList [] (fun q => by simp) (fun j _ q hq => by simp at hq) i hheard k hm)
      cases hrA : runOps c P nt (some (base, lt)) ops.toList (opsAt ops A) st with
      | none => rw [hrA] at hrun; cases hrun
      | some stA =>
        rw [hrA] at hrun
        simp only [Option.bind_some, runOps] at hrun
        split at hrun
        case h_2 => cases hrun
        rename_i stB hstB
        have hvalid : ∀ id, Asks st.env o id → Live st.H id := by
          rintro id (⟨t, p, off, _, e2⟩ | ⟨_, x, y, _, e2, e3⟩)
          · have := hR.env.opd e2
            cases hv : a.eval p <;> rw [hv] at this <;> cases this
            rename_i b hfb
            exact hR.heap.dom _ _ hfb
          · unfold mapAsk at e3
            split at e3
            · injection e3 with e3; subst e3
              have := hR.env.opd e2
              cases hv : a.eval x <;> rw [hv] at this <;> cases this
              rename_i b hfb
              exact hR.heap.dom _ _ hfb
            · cases e3
        obtain ⟨s1, s2, h1, h2, h3⟩ := front (opsAt ops A) hrA hstB hun hmx hba hvalid
        obtain ⟨stY, h4, h5⟩ := runOps_eq (opsAt ops B1) h3.symm hrun
        have hrest : runOps c P nt (some (base, lt)) ops.toList (opsAt ops (rest ops.size (l.setIfInBounds i true))) s1 = some stY := by
          rw [hnext]
          have : opsAt ops (A ++ B1) = opsAt ops A ++ opsAt ops B1 := by unfold opsAt; rw [List.filterMap_append]
          rw [this, runOps_append, h2]
          exact h4
        have hcl' : ∀ k, Listed (l.setIfInBounds i true) k → Heard ops.toList (l.setIfInBounds i true) k := by
          intro k hk o' ho' e he hb
          rcases listed_set hk with h | rfl
          · exact listed_more (hcl k h o' ho' e he hb)
          · exact listed_more (hheard o' ho' e he hb)
        have hlen : (rest ops.size (l.setIfInBounds i true)).length = fuel := by
          rw [hnext]
          rw [hAB] at hf
          simp only [List.length_append, List.length_cons] at hf ⊢
          omega
        have h1w := (stepV_some h1).1
        have next : ∀ a' w' G', Rel P B G' nt s1 a' w' → Ext G0 w0 G' w' → wpAnyIn (fw ro) m P .any ops Q fuel (l.setIfInBounds i true) a' w' := fun a' w' G' hR' hE' =>
          ih _ s1 stY G' a' w' hlen (by simpa using hl) hcl' hrest (h5.symm.trans heq) (fun e => Nat.le_trans (hba e) (stepW_len ((hmx e).2 o) h1w)) hR' hE'
        unfold wpOpIn
        rw [ho]
        simp only
        have h1 := h1w
        unfold stepW at h1
        split at h1
        · rename_i hw
          rw [yielded_rel (w := w) hR.env hw, if_pos rfl]
          exact wpIn_of_wp (not_defer h1) (op_wp hN (hcall o) hR (by rw [hclo, hE.lo]; exact hgl) h1 fun a' w' G' hR' hE' => next a' w' G' hR' (hE.trans hE'))
        · rename_i hw
          rw [yielded_rel (w := w) hR.env hw]
          simp only [Bool.false_eq_true, if_false]
          exact ⟨fun _ _ => trivial, next _ _ G (unwanted_put hR h1) hE⟩
        · cases h1

theorem draw_thm (hm : P.follows .mixedOrders = true) (hN : NoNum P) : DrawThm P := by
  intro c hcall lo hclo ro m B nt id ops st st' G a w hreg hmx lt hlt hrun hgl hR Q hQ
  refine wpIn_region_any hm ?_
  have hrest : rest ops.size (Array.replicate ops.size false) = List.range ops.size := by
    unfold rest
    refine List.filter_eq_self.2 fun k hk => ?_
    have : k < ops.size := List.mem_range.1 hk
    simp [Array.getD_eq_getD_getElem?, this]
  have hops : opsAt ops (List.range ops.size) = ops.toList := by
    have : ∀ l : List Oper, (List.range l.length).filterMap (fun k => l[k]?) = l := by
      intro l
      induction l with
      | nil => rfl
      | cons o l ih =>
        rw [List.length_cons, List.range_succ_eq_map, List.filterMap_cons_some (f := fun k => (o :: l)[k]?) (a := 0) (b := o) rfl, List.filterMap_map]
        congr 1
    have := this ops.toList
    unfold opsAt
    simpa using this
  refine any_sound hlt (st' := st') (G0 := G) (w0 := w) hN hcall hclo hgl hmx hreg hQ ops.size _ _ st' G a _ (by rw [hrest, List.length_range]) (by simp) ?_ (by rw [hrest, hops]; exact hrun) ⟨fun _ => rfl, rfl, fun _ => Iff.rfl⟩ (fun _ => by rw [List.length_append, List.length_replicate]; exact Nat.le_refl _) (drew_rel _ (rel_holes hR _)) (drew_ext _ _ _)
  · intro k hk
    unfold Listed at hk
    rw [Array.getD_eq_getD_getElem?] at hk
    by_cases hlt : k < ops.size
    · simp [hlt] at hk
    · simp [hlt] at hk

end
end Go.Proofs.YtomheegfobcijaaGreatDoor.Am

/- The abstract machine is right, twentieth part: what is looked up in a program's text. -/
namespace Go.Proofs.YtomheegfobcijaaGreatDoor.Am

def funcOk (fn : Func) : Bool :=
  !(fn.name == "runtime.NumGoroutine") && Nat.ble fn.ntmps DEF && match fn.body with
    | some c => codeOk c
    | none => true
def progOk (P : Program) : Bool := P.follows .mixedOrders && P.funcs.all funcOk

theorem pok_of {P : Program} (h : progOk P = true) : POk P := by
  unfold progOk at h
  rw [Bool.and_eq_true] at h
  have hall : ∀ (f : Nat) (fn : Func), P.funcs[f]? = some fn → funcOk fn = true := by
    intro f fn hf
    exact (Array.all_eq_true'.1 h.2) fn (Array.mem_of_getElem? hf)
  have hN : NoNum P := by
    intro f fn hf
    have := hall f fn hf
    unfold funcOk at this
    rw [Bool.and_eq_true, Bool.and_eq_true] at this
    simpa using this.1.1
  refine ⟨hN, ?_, draw_thm h.1 hN, fun f fn hf => ?_⟩
  · intro f fn c hf hc
    have := hall f fn hf
    unfold funcOk at this
    rw [hc, Bool.and_eq_true] at this
    exact this.2
  · have := hall f fn hf
    unfold funcOk at this
    rw [Bool.and_eq_true, Bool.and_eq_true] at this
    exact Nat.ble_eq.mp this.1.2

end Go.Proofs.YtomheegfobcijaaGreatDoor.Am

/- The program is one that the abstract machine is right of. -/
namespace Go.Proofs.YtomheegfobcijaaGreatDoor
theorem pok : Am.POk Tryz.prog := Am.pok_of (by kernel_rfl)
end Go.Proofs.YtomheegfobcijaaGreatDoor

/- Walks over the machine: what a region's operations come to, by rules. First part: what is asked, and small laws. -/
namespace Go.Proofs.YtomheegfobcijaaGreatDoor.Am
set_option linter.unusedVariables false
set_option linter.unusedSimpArgs false

abbrev Env := List (Nat × AV)
abbrev Hp := List (Option Blk)
abbrev Cl := List (Nat × Nat)
abbrev K4 := Env → Hp → List Nat → Cl → Prop

/-- Whatever the fuel, from some on. -/
def Ev (p : Nat → Prop) : Prop := ∃ N, ∀ n, N ≤ n → p n
theorem Ev.of {p : Nat → Prop} (h : ∀ n, p n) : Ev p := ⟨0, fun n _ => h n⟩
theorem Ev.mono {p q : Nat → Prop} (h : Ev p) (k : ∀ n, p n → q n) : Ev q := h.imp fun _ h n hn => k n (h n hn)
theorem Ev.both {p q : Nat → Prop} (h : Ev p) (k : Ev q) : Ev fun n => p n ∧ q n := by
  obtain ⟨N, h⟩ := h
  obtain ⟨M, k⟩ := k
  exact ⟨max N M, fun n hn => ⟨h n (Nat.le_trans (Nat.le_max_left _ _) hn), k n (Nat.le_trans (Nat.le_max_right _ _) hn)⟩⟩
theorem Ev.succ {p q : Nat → Prop} (h : Ev p) (k : ∀ n, p n → q (n + 1)) : Ev q := by
  obtain ⟨N, h⟩ := h
  refine ⟨N + 1, fun n hn => ?_⟩
  cases n with
  | zero => omega
  | succ n => exact k n (h n (by omega))

def drp (slots : List Nat) (s : Nat) : List Nat := slots.filter fun q => !(Nat.beq s q)
def has (slots : List Nat) (s : Nat) : Bool := slots.any (Nat.beq s)
theorem has_iff {l : List Nat} {s : Nat} : has l s = true ↔ s ∈ l := by
  unfold has
  rw [List.any_eq_true]
  exact ⟨fun ⟨q, h, e⟩ => Nat.eq_of_beq_eq_true e ▸ h, fun h => ⟨s, h, Nat.beq_refl s⟩⟩
theorem mem_drp {l : List Nat} {s q : Nat} : q ∈ drp l s ↔ q ∈ l ∧ s ≠ q := by
  unfold drp
  rw [List.mem_filter]
  constructor
  · rintro ⟨h, e⟩; exact ⟨h, fun e' => by subst e'; rw [Nat.beq_refl] at e; cases e⟩
  · rintro ⟨h, e⟩
    refine ⟨h, ?_⟩
    cases hb : Nat.beq s q with
    | false => rfl
    | true => exact absurd (Nat.eq_of_beq_eq_true hb) e

/-- These ends, at least, are one's own. -/
structure Owned (sl : List Nat) (cl : Cl) (own : List Loc) : Prop where
  slot : ∀ s, s ∈ sl → Loc.slot s ∈ own
  cell : ∀ i o, (i, o) ∈ cl → Loc.cell i o ∈ own
/-- A slot, where it is known. -/
def lookE : Env → Nat → Option AV
  | [], _ => none
  | (s, x) :: r, t => cond (Nat.beq s t) (some x) (lookE r t)
def opE (env : Env) : Operand → Option AV
  | .tmp t => lookE env t
  | .const v => constAV v
  | .global _ => none
  | .func f => some (.fn f [])
def opsE (env : Env) : List Operand → Option (List AV)
  | [] => some []
  | x :: r => match opE env x, opsE env r with
    | some v, some vs => some (v :: vs)
    | _, _ => none
/-- The state is so, as far as is told. -/
structure Sm (env : Env) (H : Hp) (sl : List Nat) (cl : Cl) (st : St) : Prop where
  env : ∀ s v, lookE env s = some v → look st.env s = v
  H : st.H = H
  own : Owned sl cl st.own

theorem look_lookE : ∀ {env : Env} {s : Nat} {v : AV}, lookE env s = some v → look env s = v
  | [], s, v, h => by cases h
  | (q, x) :: r, s, v, h => by
    unfold lookE at h
    unfold look
    cases hb : Nat.beq q s with
    | true => rw [hb] at h; simp only [cond_true] at h ⊢; injection h
    | false => rw [hb] at h; simp only [cond_false] at h ⊢; exact look_lookE h
section
variable {env : Env} {env' : List (Nat × AV)}
def EnvLe (env : Env) (env' : List (Nat × AV)) : Prop := ∀ s v, lookE env s = some v → look env' s = v
theorem EnvLe.opd (h : EnvLe env env') {x : Operand} {v : AV} (hx : opE env x = some v) : evalO env' x = some v := by
  cases x with
  | tmp t => show some (look env' t) = some v; rw [h t v hx]
  | const c => exact hx
  | global g => cases hx
  | func f => exact hx
theorem EnvLe.ops (h : EnvLe env env') : ∀ {l : List Operand} {vs : List AV}, opsE env l = some vs → evalL env' l = some vs
  | [], vs, hx => hx
  | x :: r, vs, hx => by
    unfold opsE at hx
    cases h1 : opE env x with
    | none => rw [h1] at hx; cases hx
    | some v =>
      cases h2 : opsE env r with
      | none => rw [h1, h2] at hx; cases hx
      | some ws =>
        rw [h1, h2] at hx
        simp only at hx
        unfold evalL
        rw [h.opd h1, h.ops h2]
        exact hx
theorem EnvLe.cons (h : EnvLe env env') (d : Nat) (v : AV) : EnvLe ((d, v) :: env) ((d, v) :: env') := by
  intro s x hx
  unfold lookE at hx
  unfold look
  cases hb : Nat.beq d s with
  | true => rw [hb] at hx; simp only [cond_true] at hx ⊢; injection hx
  | false => rw [hb] at hx; simp only [cond_false] at hx ⊢; exact h s x hx
end

theorem Owned.drop {sl : List Nat} {cl : Cl} {own : List Loc} (h : Owned sl cl own) (s : Nat) : Owned (drp sl s) cl (drop own (.slot s)) :=
  ⟨fun q hq => by rw [mem_drp] at hq; exact mem_drop.2 ⟨h.slot q hq.1, fun e => by injection e with e; exact hq.2 e.symm⟩, fun i o hp => mem_drop.2 ⟨h.cell i o hp, fun e => by cases e⟩⟩
theorem Owned.sub {sl sl' : List Nat} {cl cl' : Cl} {own : List Loc} (h : Owned sl cl own) (h1 : ∀ s, s ∈ sl' → s ∈ sl) (h2 : ∀ p, p ∈ cl' → p ∈ cl) : Owned sl' cl' own :=
  ⟨fun s hs => h.slot s (h1 s hs), fun i o hp => h.cell i o (h2 _ hp)⟩
theorem drp_sub {sl : List Nat} {s q : Nat} (h : q ∈ drp sl s) : q ∈ sl := (mem_drp.1 h).1
/-- What a slot has its end from, when a value is put into it. -/
def putSl (sl : List Nat) (g : Bool) (d : Nat) : List Nat := cond g (d :: drp sl d) (drp sl d)
theorem Owned.put {sl : List Nat} {cl : Cl} {own : List Loc} (h : Owned sl cl own) {g g' : Bool} (hg : g = true → g' = true) (d : Nat) : Owned (putSl sl g d) cl (cond g' (give own (.slot d)) (Go.Proofs.YtomheegfobcijaaGreatDoor.Am.drop own (.slot d))) := by
  have hd := h.drop d
  have hsub : ∀ l, l ∈ Go.Proofs.YtomheegfobcijaaGreatDoor.Am.drop own (.slot d) → l ∈ cond g' (give own (.slot d)) (Go.Proofs.YtomheegfobcijaaGreatDoor.Am.drop own (.slot d)) := by
    intro l hl
    cases g' with
    | false => exact hl
    | true => exact List.mem_cons_of_mem _ hl
  refine ⟨fun s hs => ?_, fun i o hp => hsub _ (hd.cell i o hp)⟩
  cases g with
  | false => exact hsub _ (hd.slot s hs)
  | true =>
    rcases List.mem_cons.1 hs with rfl | hs
    · rw [hg rfl]; exact List.mem_cons_self
    · exact hsub _ (hd.slot s hs)

/-! ### operations that neither read nor write cells, by what is known of the slots -/
def partsE (env : Env) : List (Nat × Operand) → Option (List (Nat × AV))
  | [] => some []
  | (i, x) :: r => match opE env x, partsE env r with
    | some v, some vs => some ((i, v) :: vs)
    | _, _ => none
def optE (env : Env) : Option Operand → Option (Option AV)
  | none => some none
  | some x => (opE env x).map some
/-- 'buildA', by lists. -/
def buildB (P : Program) (t : TypeId) (parts : List (Nat × AV)) : Option AV :=
  match zeroT P t, P.underlying t with
  | some z, some (.struct fields) => match fields.toList.all fun f => (sizeT P f.type).isSome with
    | true => (fillA (places P fields) z parts).map .agg
    | false => none
  | some z, some (.array _ elem) => match sizeT P elem with
    | some size => (fillA (fun i => some (i * size, size)) z parts).map .agg
    | none => none
  | _, _ => none
theorem buildB_eq (P : Program) (t : TypeId) (parts : List (Nat × AV)) : buildB P t parts = buildA P t parts := by
  unfold buildB buildA
  cases zeroT P t with
  | none => rfl
  | some z =>
    cases P.underlying t with
    | none => rfl
    | some d =>
      cases d with
      | struct fields =>
        simp only
        rw [Array.all_toList]
        cases fields.all fun f => (sizeT P f.type).isSome <;> rfl
      | array n elem => simp only; cases sizeT P elem <;> rfl
      | _ => rfl
def pureE (P : Program) (env : Env) (op : Op) : Option AV :=
  match op with
  | .pick c a b => match opE env c, opE env a, opE env b with
    | some (.bool t), some a, some b => some (cond t a b)
    | _, _, _ => none
  | .build t parts => match partsE env parts.toList with
    | some ps => buildB P t ps
    | none => none
  | .nilCheck x => match opE env x with
    | some (.ptr i o) => some (.ptr i o)
    | some (.ept c o) => some (.ept c o)
    | some (.iface t v) => some (.iface t v)
    | some (.fn f c) => some (.fn f c)
    | some (.mfn f b c) => some (.mfn f b c)
    | _ => none
  | .binOp op t x y _ => match opE env x, opE env y with
    | some a, some b => binOpA P op t x y a b
    | _, _ => none
  | .unOp op _ x => match opE env x with
    | some a => unOpA op a
    | none => none
  | .convert src dst x => match opE env x with
    | some a => convA P src dst a
    | none => none
  | .makeInterface t x => match opE env x, P.underlying t with
    | some a, some (.interface _) => none
    | some a, some _ => some (.iface t a)
    | _, _ => none
  | .makeFunc (.func f) first captured => if first.size = 0 then (opsE env captured.toList).map (.fn f) else match opsE env first.toList, opsE env captured.toList with
    | some bs, some cs => some (.mfn f bs cs)
    | _, _ => none
  | .slice t x lo hi mx => match opE env x, optE env lo, optE env hi, optE env mx with
    | some a, some l, some h, some m => sliceA P t a l h m
    | _, _, _, _ => none
  | .fieldAddr s x f => match opE env x, fieldOff P s f with
    | some (.ptr id off), some o => some (.ptr id (off + o))
    | some (.ept cs off), some o => some (.ept cs (off + o))
    | _, _ => none
  | .field t x f => match opE env x, P.underlying t with
    | some (.agg cs), some (.struct fields) => match fields[f]? with
      | some fd => partA P fd.type cs fd.offset
      | none => none
    | _, _ => none
  | .indexAddr t x i => match opE env x, opE env i with
    | some a, some b => indexAddrA P t a b
    | _, _ => none
  | .index t x i => match opE env x, opE env i with
    | some a, some b => indexA P t a b
    | _, _ => none
  | .extract t i => match opE env t with
    | some (.tup vs) => vs[i]?
    | _ => none
  | .call { callee := .builtin .len, args, argTypes } => match args.toList, argTypes.toList with
    | [x], [t] => cond (mapT t) none (match P.underlying t, opE env x with
      | some .string, some (.str s) => some (.int .i64 s.length)
      | some (.slice _), some (.lst _ xs _) => some (.int .i64 xs.length)
      | some (.slice _), some (.sl _ _ _ n) => some (.int .i64 n)
      | some (.slice _), some (.vw _ _ _ n) => some (.int .i64 n)
      | some (.slice _), some .nils => some (.int .i64 0)
      | some (.array n _), some _ => some (.int .i64 n)
      | some (.map _ _), some .nilm => some (.int .i64 0)
      | _, _ => none)
    | _, _ => none
  | .typeAssert x _ t ok => match opE env x, P.underlying t with
    | some (.iface _ _), some (.interface _) => none
    | some (.iface t' v), some _ => cond (Nat.beq t' t) (cond ok (some (.tup [v, .bool true])) (some v)) none
    | _, _ => none
  | _ => none

section
variable {P : Program} {env : Env} {env' : List (Nat × AV)}
theorem EnvLe.parts (h : EnvLe env env') : ∀ {l : List (Nat × Operand)} {vs : List (Nat × AV)}, partsE env l = some vs → evalParts env' l = some vs
  | [], vs, hx => hx
  | (i, x) :: r, vs, hx => by
    unfold partsE at hx
    cases h1 : opE env x with
    | none => rw [h1] at hx; cases hx
    | some v =>
      cases h2 : partsE env r with
      | none => rw [h1, h2] at hx; cases hx
      | some ws =>
        rw [h1, h2] at hx
        simp only at hx
        unfold evalParts
        rw [h.opd h1, h.parts h2]
        exact hx
theorem EnvLe.opt (h : EnvLe env env') {x : Option Operand} {v : Option AV} (hx : optE env x = some v) : optA env' x = some v := by
  cases x with
  | none => exact hx
  | some x =>
    have hx : (opE env x).map some = some v := hx
    show (evalO env' x).map some = some v
    cases h1 : opE env x with
    | none => rw [h1] at hx; cases hx
    | some a => rw [h.opd h1]; rw [h1] at hx; exact hx

theorem pureE_to (h : EnvLe env env') {op : Op} {v : AV} (hp : pureE P env op = some v) : pureOp P env' op = some v := by
  unfold pureE at hp
  split at hp
  case h_1 c a b =>
    split at hp
    · rename_i t a' b' h1 h2 h3
      unfold pureOp
      simp only [h.opd h1, h.opd h2, h.opd h3]
      cases t <;> exact hp
    · cases hp
  case h_2 t parts =>
    split at hp
    · rename_i ps h1
      unfold pureOp
      simp only [h.parts h1]
      rw [← buildB_eq]; exact hp
    · cases hp
  case h_3 x =>
    unfold pureOp
    cases h1 : opE env x with
    | none => rw [h1] at hp; cases hp
    | some a => simp only [h.opd h1]; rw [h1] at hp; exact hp
  case h_4 op t x y c =>
    unfold pureOp
    cases h1 : opE env x with
    | none => rw [h1] at hp; cases hp
    | some a =>
      cases h2 : opE env y with
      | none => rw [h1, h2] at hp; cases hp
      | some b => simp only [h.opd h1, h.opd h2]; rw [h1, h2] at hp; exact hp
  case h_5 op t x =>
    unfold pureOp
    cases h1 : opE env x with
    | none => rw [h1] at hp; cases hp
    | some a => simp only [h.opd h1]; rw [h1] at hp; exact hp
  case h_6 op t x =>
    unfold pureOp
    cases h1 : opE env x with
    | none => rw [h1] at hp; cases hp
    | some a => simp only [h.opd h1]; rw [h1] at hp; exact hp
  case h_7 t x =>
    unfold pureOp
    cases h1 : opE env x with
    | none => rw [h1] at hp; cases hp
    | some a => simp only [h.opd h1]; rw [h1] at hp; exact hp
  case h_8 f first captured =>
    unfold pureOp
    simp only
    split at hp
    · rename_i hf
      rw [if_pos hf]
      cases h1 : opsE env captured.toList with
      | none => rw [h1] at hp; cases hp
      | some vs => rw [h.ops h1]; rw [h1] at hp; exact hp
    · rename_i hf
      rw [if_neg hf]
      split at hp
      · rename_i bs cs h1 h2
        rw [h.ops h1, h.ops h2]; exact hp
      · cases hp
  case h_9 t x lo hi mx =>
    split at hp
    · rename_i a l hh m h1 h2 h3 h4
      unfold pureOp
      simp only [h.opd h1, h.opt h2, h.opt h3, h.opt h4]
      exact hp
    · cases hp
  case h_10 s x f =>
    unfold pureOp
    cases h1 : opE env x with
    | none => rw [h1] at hp; cases hp
    | some a => simp only [h.opd h1]; rw [h1] at hp; exact hp
  case h_11 t x f =>
    unfold pureOp
    cases h1 : opE env x with
    | none => rw [h1] at hp; cases hp
    | some a => simp only [h.opd h1]; rw [h1] at hp; exact hp
  case h_12 t x i =>
    unfold pureOp
    cases h1 : opE env x with
    | none => rw [h1] at hp; cases hp
    | some a =>
      cases h2 : opE env i with
      | none => rw [h1, h2] at hp; cases hp
      | some b => simp only [h.opd h1, h.opd h2]; rw [h1, h2] at hp; exact hp
  case h_13 t x i =>
    unfold pureOp
    cases h1 : opE env x with
    | none => rw [h1] at hp; cases hp
    | some a =>
      cases h2 : opE env i with
      | none => rw [h1, h2] at hp; cases hp
      | some b => simp only [h.opd h1, h.opd h2]; rw [h1, h2] at hp; exact hp
  case h_14 t i =>
    unfold pureOp
    cases h1 : opE env t with
    | none => rw [h1] at hp; cases hp
    | some a => simp only [h.opd h1]; rw [h1] at hp; exact hp
  case h_15 args at_ =>
    unfold pureOp
    simp only
    split at hp
    · rename_i x t hx ht
      cases hmt : mapT t with
      | true => rw [hmt] at hp; cases hp
      | false =>
      rw [hmt, cond_false] at hp
      simp only [hx, ht]
      cases h1 : opE env x with
      | none =>
        rw [h1] at hp
        split at hp <;> first | (cases hp; done) | (rename_i hh; cases hh; done)
      | some a => rw [h.opd h1]; rw [h1] at hp; exact hp
    · cases hp
  case h_16 x it t ok =>
    unfold pureOp
    cases h1 : opE env x with
    | none => rw [h1] at hp; cases hp
    | some a => simp only [h.opd h1]; rw [h1] at hp; exact hp
  case h_17 => cases hp
end
end Go.Proofs.YtomheegfobcijaaGreatDoor.Am

/- Walks over the machine, second part: what stands in a region, by rules. -/
namespace Go.Proofs.YtomheegfobcijaaGreatDoor.Am
set_option linter.unusedVariables false
set_option linter.unusedSimpArgs false

/-- How a region is run: in its order, or in any. -/
inductive Md where
  | plain
  | draw (base : Nat) (lt : Option WS) (mx : Bool)
def Md.pre : Md → Option (Nat × Option WS)
  | .plain => none
  | .draw b lt _ => some (b, lt)
def Md.call (md : Md) (P : Program) (K : Know) (n : Nat) (ops : List Oper) (dst : Option Nat) : CallA :=
  match md with
  | .plain => cN P K n
  | .draw _ _ mx => cond mx (cond (mixD ops dst) (dN P K n) (chk (cN P K n))) (cN P K n)
/-- What is known where calls go. -/
def Md.know (md : Md) (K : Know) (H : Hp) (ops : List Oper) (dst : Option Nat) : Know :=
  match md with
  | .plain => K
  | .draw _ _ mx => cond mx (cond (mixD ops dst) (K.up H.length) K) K
def Md.above (md : Md) (K : Know) (H : Hp) : Bool :=
  match md with
  | .plain => true
  | .draw _ _ mx => !mx
theorem Md.call_lo (md : Md) (P : Program) (K : Know) (n : Nat) (ops : List Oper) (dst : Option Nat) : (md.call P K n ops dst).lo = K.lo := by
  cases md with
  | plain => rfl
  | draw b lt mx =>
    unfold Md.call
    cases mx with
    | false => rfl
    | true => cases mixD ops dst <;> rfl
theorem Md.call_run (md : Md) (P : Program) (K : Know) (n : Nat) (ops : List Oper) (dst : Option Nat) (f : FuncId) (args : List AV) (H : Hp) (own : List Loc) (h : md.above K H = true) : (md.call P K n ops dst).run f args H own = callK P n (md.know K H ops dst) f args H own := by
  cases md with
  | plain => rfl
  | draw b lt mx =>
    cases mx with
    | false => rfl
    | true => cases h
def stepM (P : Program) (K : Know) (nt : Nat) (md : Md) (ops : List Oper) (n : Nat) (o : Oper) (st : St) : Option St :=
  match md with
  | .plain => stepZ (cN P K n) (yieldA K.lo (execK P n K)) P nt ops o st
  | .draw _ _ _ => stepW (md.call P K n ops o.dst) P nt md.pre ops o st
def runM (P : Program) (K : Know) (nt : Nat) (md : Md) (ops : List Oper) (n : Nat) : List Oper → St → Option St
  | [], st => some st
  | o :: r, st => match stepM P K nt md ops n o st with
    | some st' => runM P K nt md ops n r st'
    | none => none
section
variable {P : Program} {K : Know} {nt : Nat} {ops : List Oper}
theorem runM_plain (n : Nat) : ∀ (l : List Oper) (st : St), runM P K nt .plain ops n l st = runOpsZ (cN P K n) (yieldA K.lo (execK P n K)) P nt ops l st
  | [], st => rfl
  | o :: r, st => by
    unfold runM runOpsZ
    show (match stepZ (cN P K n) (yieldA K.lo (execK P n K)) P nt ops o st with | some st' => _ | none => _) = _
    cases stepZ (cN P K n) (yieldA K.lo (execK P n K)) P nt ops o st with
    | none => rfl
    | some st' => exact runM_plain n r st'
end

/-- A region's operations end in Q. -/
structure O (P : Program) (K : Know) (nt : Nat) (md : Md) (ops l : List Oper) (env : Env) (H : Hp) (sl : List Nat) (cl : Cl) (Q : K4) : Prop where
  to : ∀ st, Sm env H sl cl st → ∃ env' H' sl' cl' st', Q env' H' sl' cl' ∧ Sm env' H' sl' cl' st' ∧ Ev fun n => runM P K nt md ops n l st = some st'

/-- What is asked of an operation that is asked for. -/
def wantE (ops : List Oper) (env : Env) (g : Option (Nat × Bool)) : Option Bool :=
  match g with
  | none => some true
  | some (j, want) => match ops[j]? with
    | some { dst := some d, .. } => match lookE env d with
      | some (.bool b) => some (b == want)
      | some (.tup []) => some false
      | _ => none
    | _ => none

section
variable {P : Program} {K : Know} {nt : Nat} {md : Md} {ops r : List Oper} {env : Env} {H : Hp} {sl : List Nat} {cl : Cl} {Q : K4}

theorem wantE_to {env' : List (Nat × AV)} (h : EnvLe env env') {o : Oper} {b : Bool} (hw : wantE ops env o.guard = some b) : wantedA ops env' o = some b := by
  unfold wantE at hw
  unfold wantedA
  split at hw
  · rename_i hg; rw [hg]; exact hw
  · rename_i j want hg
    rw [hg]
    simp only
    split at hw
    · rename_i ho
      rw [ho]
      simp only
      split at hw
      · rename_i hl; rw [h _ _ hl]; exact hw
      · rename_i hl; rw [h _ _ hl]; exact hw
      · cases hw
    · cases hw

/-- An operation by itself, in a region. -/
def coreR (P : Program) (K : Know) (md : Md) (ops : List Oper) (n : Nat) (o : Oper) (st : St) : Option Res :=
  match (match md with | .plain => yieldOp st.env o | _ => none) with
  | some (id, vs) => match yieldA K.lo (execK P n K) id vs st.H (canon (st.own.filter Loc.isCell)) with
    | some (x, H', own') => some ⟨x, H', st.own.filter (fun l => !l.isCell) ++ own'.filter Loc.isCell, false⟩
    | none => none
  | none => coreP (md.call P K n ops o.dst) P md.pre ops o st.env st.H st.own
theorem core_defer {call : CallA} {pre : Option (Nat × Option WS)} {ops : List Oper} {o : Oper} {env : List (Nat × AV)} {H : Hp} {own : List Loc} {v : Res} (h : coreP call P pre ops o env H own = some v) (st : St) : deferZ o st = none := by
  cases hz : deferZ o st with
  | none => rfl
  | some r =>
    exfalso
    have hd := deferZ_some hz
    obtain ⟨dst, op, ty, pos, after, guard⟩ := o
    unfold isDefer at hd
    simp only at hd
    split at hd
    case h_2 => cases hd
    rename_i c
    have e1 : slElem P { dst := dst, op := .defer c, type := ty, pos := pos, after := after, guard := guard } = none := rfl
    unfold coreP at h
    cases pre with
    | none =>
      simp only [coreS, e1, isMapO, isMapW, isMapR, Bool.or_false, cond_false, core, plainRes, pureOp, Option.map_none] at h
      cases h
    | some p =>
      obtain ⟨b, lt⟩ := p
      have e2 : allocOp { dst := dst, op := .defer c, type := ty, pos := pos, after := after, guard := guard } = false := rfl
      simp only [e2, cond_false, coreS, e1, isMapO, isMapW, isMapR, Bool.or_false, core, plainRes, pureOp, Option.map_none] at h
      cases (lateNo b lt ops { dst := dst, op := .defer c, type := ty, pos := pos, after := after, guard := guard } env) <;> simp at h
theorem stepM_core {n : Nat} {o : Oper} {st : St} {v : Res} (hw : wantedA ops st.env o = some true) (h : coreR P K md ops n o st = some v) : stepM P K nt md ops n o st = v.put nt st.env o.dst := by
  unfold stepM
  unfold coreR at h
  cases md with
  | plain =>
    simp only at h ⊢
    unfold stepZ
    rw [hw]
    simp only
    cases hy : yieldOp st.env o with
    | none =>
      rw [hy] at h
      simp only at h ⊢
      unfold stepOp
      have h : coreP (cN P K n) P none ops o st.env st.H st.own = some v := h
      have hz : convZ P o st = none := by
        cases hz : convZ P o st with
        | none => rfl
        | some r => exact absurd h (core_conv hz)
      rw [core_defer h st, hz, h]
    | some p =>
      obtain ⟨id, vs⟩ := p
      rw [hy] at h
      simp only at h ⊢
      cases hz : yieldA K.lo (execK P n K) id vs st.H (canon (st.own.filter Loc.isCell)) with
      | none => rw [hz] at h; cases h
      | some q =>
        obtain ⟨x, H', own'⟩ := q
        rw [hz] at h
        simp only [Option.some.injEq] at h ⊢
        subst h
        rfl
  | draw b lt mx =>
    simp only at h ⊢
    unfold stepW
    rw [hw]
    simp only
    unfold stepOp
    rw [h]

theorem O_nil (h : Q env H sl cl) : O P K nt md ops [] env H sl cl Q := ⟨fun st hs => ⟨env, H, sl, cl, st, h, hs, Ev.of fun n => rfl⟩⟩

theorem sm_put {st : St} (hs : Sm env H sl cl st) {d : Nat} {v : AV} {H1 : Hp} {sl1 : List Nat} {cl1 : Cl} {own : List Loc} {g g' : Bool} (ho : Owned sl1 cl1 own) (hg : g = true → g' = true) :
    Sm ((d, v) :: env) H1 (putSl sl1 g d) cl1 ⟨(d, v) :: st.env, H1, cond g' (give own (.slot d)) (drop own (.slot d))⟩ :=
  ⟨EnvLe.cons hs.env d v, rfl, ho.put hg d⟩

/-- A step, by what it comes to. -/
theorem O_step {o : Oper} {d : Nat} {v : AV} {H1 : Hp} {sl1 : List Nat} {cl1 : Cl} {g : Bool} (hdst : o.dst = some d) (hw : wantE ops env o.guard = some true) (hd : Nat.blt d nt = true)
    (hc : ∀ st, Sm env H sl cl st → ∃ own' g', Owned sl1 cl1 own' ∧ (g = true → g' = true) ∧ Ev fun n => coreR P K md ops n o st = some ⟨v, H1, own', g'⟩)
    (k : O P K nt md ops r ((d, v) :: env) H1 (putSl sl1 g d) cl1 Q) : O P K nt md ops (o :: r) env H sl cl Q := by
  refine ⟨fun st hs => ?_⟩
  obtain ⟨own', g', h1, h2, h3⟩ := hc st hs
  obtain ⟨env', H', sl', cl', st', hq, h4, h5⟩ := k.to _ (sm_put hs h1 h2)
  refine ⟨env', H', sl', cl', st', hq, h4, (h3.both h5).mono fun n hn => ?_⟩
  unfold runM
  rw [stepM_core (wantE_to hs.env hw) hn.1, hdst]
  unfold Res.put
  simp only
  rw [if_pos (Nat.blt_eq.mp hd)]
  exact hn.2
theorem O_step0 {o : Oper} {v : AV} {H1 : Hp} {sl1 : List Nat} {cl1 : Cl} (hdst : o.dst = none) (hw : wantE ops env o.guard = some true)
    (hc : ∀ st, Sm env H sl cl st → ∃ own' g', Owned sl1 cl1 own' ∧ Ev fun n => coreR P K md ops n o st = some ⟨v, H1, own', g'⟩)
    (k : O P K nt md ops r env H1 sl1 cl1 Q) : O P K nt md ops (o :: r) env H sl cl Q := by
  refine ⟨fun st hs => ?_⟩
  obtain ⟨own', g', h1, h3⟩ := hc st hs
  obtain ⟨env', H', sl', cl', st', hq, h4, h5⟩ := k.to ⟨st.env, H1, own'⟩ ⟨hs.env, rfl, h1⟩
  refine ⟨env', H', sl', cl', st', hq, h4, (h3.both h5).mono fun n hn => ?_⟩
  unfold runM
  rw [stepM_core (wantE_to hs.env hw) hn.1, hdst]
  exact hn.2
/-- No operation that makes a list that is written into, nor, in a region that draws its order, a block. -/
def dry (P : Program) (md : Md) (o : Oper) : Bool := ((slElem P o).isNone && !(isMapO o)) && match md with
  | .plain => true
  | .draw _ _ _ => !(allocOp o)
def lateE (md : Md) (ops : List Oper) (o : Oper) (env : List (Nat × AV)) : Bool :=
  match md with
  | .plain => true
  | .draw b lt _ => !(lateNo b lt ops o env)
theorem coreP_core {call : CallA} {o : Oper} {env' : List (Nat × AV)} {own : List Loc} (h : dry P md o = true) (hl : lateE md ops o env' = true) : coreP call P md.pre ops o env' H own = core call P ops o env' H own := by
  unfold dry at h
  rw [Bool.and_eq_true] at h
  have hs : slElem P o = none := by
    cases hh : slElem P o with
    | none => rfl
    | some e => rw [hh] at h; cases h.1
  have hmo : isMapO o = false := by
    cases hm : isMapO o with
    | false => rfl
    | true => rw [hm, Bool.not_true, Bool.and_false] at h; cases h.1
  have hS : coreS call P ops o env' H own = core call P ops o env' H own := by unfold coreS; rw [hs]; simp only [hmo, cond_false]
  unfold coreP
  cases md with
  | plain => exact hS
  | draw b lt mx =>
    have h2 : allocOp o = false := by have := h.2; simp only [Bool.not_eq_true'] at this; exact this
    have h3 : lateNo b lt ops o env' = false := by have hl : (!(lateNo b lt ops o env')) = true := hl; cases hh : lateNo b lt ops o env' with | false => rfl | true => (rw [hh] at hl; cases hl)
    show (cond (allocOp o) _ (cond (lateNo b lt ops o env') none (coreS call P ops o env' H own))) = _
    rw [h2, h3]
    exact hS

/-- Neither a block is read nor written. -/
def isMem (o : Oper) : Bool :=
  match o.op with
  | .load _ _ => true
  | .store _ _ _ => true
  | .lookup _ _ _ _ => true
  | _ => false
theorem lateE_of {o : Oper} {env' : List (Nat × AV)} (h : isMem o = false) : lateE md ops o env' = true := by
  unfold lateE
  cases md with
  | plain => rfl
  | draw b lt mx =>
    cases lt with
    | none => rfl
    | some ws =>
      have : lateOk ops b ws o env' = true := by
        unfold lateOk
        unfold isMem at h
        split <;> first | rfl | (rename_i hh; rw [hh] at h; cases h)
      show (!(!(lateOk ops b ws o env'))) = true
      rw [this]; rfl

/-- Operations of which 'pureE' speaks go so in the machine. -/
theorem core_pure {call : CallA} {o : Oper} {env' : List (Nat × AV)} {own : List Loc} {v : AV} (hp : pureE P env o.op = some v) (h : EnvLe env env') : core call P ops o env' H own = some ⟨v, H, own, false⟩ := by
  have h1 := pureE_to h hp
  obtain ⟨dst, op, ty, pos, after, guard⟩ := o
  simp only at hp h1
  cases op
  case convert src dst' x =>
    unfold pureE at hp
    simp only at hp
    unfold core
    simp only
    cases hx : opE env x with
    | none => rw [hx] at hp; cases hp
    | some a =>
      rw [hx] at hp
      simp only at hp
      have e := h.opd hx
      have key : plainRes H own (convA P src dst' a) = some ⟨v, H, own, false⟩ := by rw [hp]; rfl
      unfold convA at hp
      split at hp
      · rename_i hs hd
        obtain ⟨s0, hs'⟩ : ∃ s0, P.underlying src = some s0 := ⟨_, hs⟩
        rw [e, hd, hs']
        cases s0 <;> exact key
      · rename_i hs hd
        obtain ⟨s0, hs'⟩ : ∃ s0, P.underlying src = some s0 := ⟨_, hs⟩
        rw [e, hd, hs']
        cases s0 <;> exact key
      · cases hp
  case call c =>
    obtain ⟨callee, args, at_⟩ := c
    cases callee with
    | builtin b =>
      cases b <;> first | (cases hp; done) | (unfold core; simp only [h1]; rfl)
    | value f => cases hp
    | invoke a b => cases hp
  all_goals first | (cases hp; done) | (unfold core; simp only [h1]; rfl)
end
end Go.Proofs.YtomheegfobcijaaGreatDoor.Am

/- Walks over the machine, third part: rules for operations. -/
namespace Go.Proofs.YtomheegfobcijaaGreatDoor.Am
set_option linter.unusedVariables false
set_option linter.unusedSimpArgs false

/-- A call ends in R, whatever the fuel, from some on. -/
def CallsR (P : Program) (K : Know) (f : FuncId) (args : List AV) (H : Hp) (cl : Cl) (R : AV → Hp → Cl → Prop) : Prop :=
  ∀ own, Owned [] cl own → ∃ x H' cl' own', R x H' cl' ∧ Owned [] cl' own' ∧ Ev fun n => callK P n K f args H own = some (x, H', own')
/-- A piece of a block, read. -/
def rdB (P : Program) (t : TypeId) (off : Nat) (e : TypeId) (cs : List AV) : Option AV :=
  match sizeT P t with
  | some n => cond (Nat.beq e LOOP) none (cond (Nat.ble (off + n) cs.length) (ofCells P t ((cs.drop off).take n)) none)
  | none => none
def stB (P : Program) (t : TypeId) (off : Nat) (b : Blk) (v : AV) : Bool :=
  match sizeT P t with
  | some n => !(Nat.beq b.e LOOP) && Nat.beq v.cells.length n && Nat.blt 0 n && Nat.ble (off + n) b.cs.length
  | none => false
def lateL (md : Md) (id : Nat) : Bool :=
  match md with
  | .plain => true
  | .draw b lt _ => match lt with
    | some ws => Nat.blt id b && !(ws.any fun p => Nat.beq id p.2)
    | none => true
def slotOf : Operand → Option Nat
  | .tmp s => some s
  | _ => none
def lateS (md : Md) (a : Operand) (id : Nat) : Bool :=
  match md with
  | .plain => true
  | .draw b lt _ => match lt with
    | some ws => Nat.ble b id || ws.any fun p => slotOf a == some p.1 && Nat.beq id p.2
    | none => true
section
variable {P : Program} {K : Know} {nt : Nat} {md : Md} {ops r : List Oper} {env : Env} {H : Hp} {sl : List Nat} {cl : Cl} {Q : K4}

theorem mem_ins {x y : Loc} : ∀ {l : List Loc}, y = x ∨ y ∈ l → y ∈ insL x l
  | [], h => by
    rcases h with rfl | h
    · exact List.mem_cons_self
    · cases h
  | z :: r, h => by
    unfold insL
    cases hlt : Loc.lt x z with
    | true =>
      simp only [cond_true]
      rcases h with rfl | h
      · exact List.mem_cons_self
      · exact List.mem_cons_of_mem _ h
    | false =>
      simp only [cond_false]
      cases hb : Loc.beq x z with
      | true =>
        simp only [cond_true]
        rcases h with rfl | h
        · have : y = z := by
            cases y <;> cases z <;> simp only [Loc.beq, Bool.and_eq_true] at hb
            · rw [Nat.eq_of_beq_eq_true hb]
            · cases hb
            · cases hb
            · rw [Nat.eq_of_beq_eq_true hb.1, Nat.eq_of_beq_eq_true hb.2]
          rw [this]; exact List.mem_cons_self
        · exact h
      | false =>
        simp only [cond_false]
        rcases h with rfl | h
        · exact List.mem_cons_of_mem _ (mem_ins (.inl rfl))
        · rcases List.mem_cons.1 h with rfl | h
          · exact List.mem_cons_self
          · exact List.mem_cons_of_mem _ (mem_ins (.inr h))
theorem mem_canon' : ∀ {l : List Loc} {x : Loc}, x ∈ l → x ∈ canon l
  | [], x, h => by cases h
  | y :: r, x, h => by
    show x ∈ insL y (canon r)
    rcases List.mem_cons.1 h with rfl | h
    · exact mem_ins (.inl rfl)
    · exact mem_ins (.inr (mem_canon' h))
theorem Owned.cells {own : List Loc} (h : Owned sl cl own) : Owned [] cl (canon (own.filter Loc.isCell)) :=
  ⟨fun s hs => (by cases hs), fun i o hp => mem_canon' (List.mem_filter.2 ⟨h.cell i o hp, rfl⟩)⟩
theorem Owned.back {cl' : Cl} {own own' : List Loc} (h : Owned sl cl own) (h' : Owned [] cl' own') : Owned sl cl' (own.filter (fun l => !l.isCell) ++ own'.filter Loc.isCell) :=
  ⟨fun s hs => List.mem_append_left _ (List.mem_filter.2 ⟨h.slot s hs, rfl⟩), fun i o hp => List.mem_append_right _ (List.mem_filter.2 ⟨h'.cell i o hp, rfl⟩)⟩

theorem coreM_of {n : Nat} {o : Oper} {st : St} {v : Res} (hy : yieldOp st.env o = none) (h : coreP (md.call P K n ops o.dst) P md.pre ops o st.env st.H st.own = some v) : coreR P K md ops n o st = some v := by
  unfold coreR
  cases md with
  | plain => simp only; rw [hy]; exact h
  | draw b lt mx => exact h
def isCallO (op : Op) : Bool :=
  match op with
  | .call { callee := .value _, .. } => true
  | _ => false
theorem noYield {o : Oper} {env' : List (Nat × AV)} (h : isCallO o.op = false) : yieldOp env' o = none := by
  unfold yieldOp
  unfold isCallO at h
  split <;> first | rfl | (rename_i hh; rw [hh] at h; cases h)

/-- Operations that neither read nor write cells. -/
theorem len_kind {v : AV} {args : Array Operand} {at_ : Array TypeId} {d : Option Tmp} {ty : TypeId} {pos : String} {af : Array Edge} {g : Option (Nat × Bool)} (hp : pureE P env (.call { callee := .builtin .len, args := args, argTypes := at_ }) = some v) : dry P md ⟨d, .call { callee := .builtin .len, args := args, argTypes := at_ }, ty, pos, af, g⟩ = true := by
  have h : isMapO ⟨d, .call { callee := .builtin .len, args := args, argTypes := at_ }, ty, pos, af, g⟩ = false := by
    unfold pureE at hp
    simp only at hp
    unfold isMapO isMapW isMapR
    simp only [Bool.false_or]
    split at hp
    · rename_i x t hx ht
      rw [ht]
      cases hmt : mapT t with
      | true => rw [hmt] at hp; cases hp
      | false => exact hmt
    · cases hp
  unfold dry
  rw [h]
  cases md <;> rfl
theorem pureE_kind {op : Op} {v : AV} {d : Option Tmp} {ty : TypeId} {pos : String} {af : Array Edge} {g : Option (Nat × Bool)} (hp : pureE P env op = some v) : isCallO op = false ∧ dry P md ⟨d, op, ty, pos, af, g⟩ = true ∧ isMem ⟨d, op, ty, pos, af, g⟩ = false := by
  cases op
  case call c =>
    obtain ⟨callee, args, at_⟩ := c
    cases callee with
    | builtin b => cases b <;> first | (cases hp; done) | exact ⟨rfl, len_kind hp, rfl⟩ | exact ⟨rfl, by cases md <;> rfl, rfl⟩
    | value f => cases hp
    | invoke a b => cases hp
  all_goals first | (cases hp; done) | exact ⟨rfl, by cases md <;> rfl, rfl⟩
theorem O_pure {sl' : List Nat} (v : AV) {d : Nat} {op : Op} {ty : TypeId} {pos : String} {af : Array Edge} {g : Option (Nat × Bool)} (hw : wantE ops env g = some true) (hp : pureE P env op = some v) (hd : Nat.blt d nt = true) (hsl : drp sl d = sl')
    (k : O P K nt md ops r ((d, v) :: env) H sl' cl Q) : O P K nt md ops (⟨some d, op, ty, pos, af, g⟩ :: r) env H sl cl Q := by
  subst hsl
  obtain ⟨h1, h2, h3⟩ := pureE_kind (md := md) (d := some d) (ty := ty) (pos := pos) (af := af) (g := g) hp
  refine O_step (g := false) rfl hw hd (fun st hs => ⟨st.own, false, hs.own, fun e => e, Ev.of fun n => coreM_of (noYield h1) ?_⟩) k
  rw [coreP_core h2 (lateE_of h3), hs.H]
  exact core_pure (o := ⟨some d, op, ty, pos, af, g⟩) hp hs.env

theorem dry_move {d : Option Tmp} {x : Operand} {ty : TypeId} {pos : String} {af : Array Edge} {g : Option (Nat × Bool)} : dry P md ⟨d, .move x, ty, pos, af, g⟩ = true := by cases md <;> rfl
theorem dry_assign {d : Option Tmp} {x : Operand} {ty : TypeId} {pos : String} {af : Array Edge} {g : Option (Nat × Bool)} : dry P md ⟨d, .assign x, ty, pos, af, g⟩ = true := by cases md <;> rfl
theorem dry_load {d : Option Tmp} {t : TypeId} {x : Operand} {ty : TypeId} {pos : String} {af : Array Edge} {g : Option (Nat × Bool)} : dry P md ⟨d, .load t x, ty, pos, af, g⟩ = true := by cases md <;> rfl
theorem dry_store {d : Option Tmp} {t : TypeId} {a x : Operand} {ty : TypeId} {pos : String} {af : Array Edge} {g : Option (Nat × Bool)} : dry P md ⟨d, .store t a x, ty, pos, af, g⟩ = true := by cases md <;> rfl
theorem dry_call {d : Option Tmp} {f : Operand} {args : Array Operand} {at_ : Array TypeId} {ty : TypeId} {pos : String} {af : Array Edge} {g : Option (Nat × Bool)} : dry P md ⟨d, .call { callee := .value f, args := args, argTypes := at_ }, ty, pos, af, g⟩ = true := by cases md <;> rfl
/-- A slot's value, moved. -/
theorem O_move {sl' : List Nat} (v : AV) {d s : Nat} {ty : TypeId} {pos : String} {af : Array Edge} {g : Option (Nat × Bool)} (hw : wantE ops env g = some true) (hx : lookE env s = some v) (ha : appSrc ops d = false) (hd : Nat.blt d nt = true) (hsl : drp sl d = sl')
    (k : O P K nt md ops r ((d, v) :: env) H sl' cl Q) : O P K nt md ops (⟨some d, .move (.tmp s), ty, pos, af, g⟩ :: r) env H sl cl Q := by
  subst hsl
  refine O_step (g := false) rfl hw hd (fun st hs => ⟨st.own, false, hs.own, fun e => e, Ev.of fun n => coreM_of (noYield rfl) ?_⟩) k
  rw [coreP_core dry_move (lateE_of rfl), hs.H]
  show some (cond (owns st.own (.slot s) && appSrc ops d) _ _) = _
  rw [ha, Bool.and_false, hs.env s v hx]
  rfl
def isSlot : Operand → Bool
  | .tmp _ => true
  | _ => false
theorem O_moveC {sl' : List Nat} (v : AV) {d : Nat} {x : Operand} {ty : TypeId} {pos : String} {af : Array Edge} {g : Option (Nat × Bool)} (hw : wantE ops env g = some true) (hx : opE env x = some v) (hn : isSlot x = false) (hd : Nat.blt d nt = true) (hsl : drp sl d = sl')
    (k : O P K nt md ops r ((d, v) :: env) H sl' cl Q) : O P K nt md ops (⟨some d, .move x, ty, pos, af, g⟩ :: r) env H sl cl Q := by
  subst hsl
  refine O_step (g := false) rfl hw hd (fun st hs => ⟨st.own, false, hs.own, fun e => e, Ev.of fun n => coreM_of (noYield rfl) ?_⟩) k
  rw [coreP_core dry_move (lateE_of rfl), hs.H]
  cases x with
  | tmp t => cases hn
  | const c => show plainRes H st.own (evalO st.env (.const c)) = _; rw [EnvLe.opd hs.env hx]; rfl
  | global c => cases hx
  | func c => show plainRes H st.own (evalO st.env (.func c)) = _; rw [EnvLe.opd hs.env hx]; rfl
/-- A value is put into a variable. -/
theorem O_asg {sl' : List Nat} (v : AV) {d s : Nat} {ty : TypeId} {pos : String} {af : Array Edge} {g : Option (Nat × Bool)} (hw : wantE ops env g = some true) (hx : lookE env s = some v) (hd : Nat.blt d nt = true) (hsl : putSl (drp sl s) (has sl s) d = sl')
    (k : O P K nt md ops r ((d, v) :: env) H sl' cl Q) : O P K nt md ops (⟨some d, .assign (.tmp s), ty, pos, af, g⟩ :: r) env H sl cl Q := by
  subst hsl
  refine O_step (g := has sl s) rfl hw hd (fun st hs => ?_) k
  refine ⟨cond (owns st.own (.slot s)) (drop st.own (.slot s)) st.own, owns st.own (.slot s), ?_, fun e => owns_iff.2 (hs.own.slot s (has_iff.1 e)), Ev.of fun n => coreM_of (noYield rfl) ?_⟩
  · cases owns st.own (.slot s) with
    | true => exact hs.own.drop s
    | false => exact hs.own.sub (fun q hq => drp_sub hq) (fun p hp => hp)
  · rw [coreP_core dry_assign (lateE_of rfl), hs.H]
    unfold core
    simp only
    rw [EnvLe.opd hs.env (x := .tmp s) hx]
    simp only
    cases owns st.own (.slot s) <;> rfl
theorem O_asgC {sl' : List Nat} (v : AV) {d : Nat} {x : Operand} {ty : TypeId} {pos : String} {af : Array Edge} {g : Option (Nat × Bool)} (hw : wantE ops env g = some true) (hx : opE env x = some v) (hn : isSlot x = false) (hd : Nat.blt d nt = true) (hsl : putSl sl (isNils v) d = sl')
    (k : O P K nt md ops r ((d, v) :: env) H sl' cl Q) : O P K nt md ops (⟨some d, .assign x, ty, pos, af, g⟩ :: r) env H sl cl Q := by
  subst hsl
  refine O_step (g := isNils v) rfl hw hd (fun st hs => ⟨st.own, isNils v, hs.own, fun e => e, Ev.of fun n => coreM_of (noYield rfl) ?_⟩) k
  rw [coreP_core dry_assign (lateE_of rfl), hs.H]
  have hx' := EnvLe.opd hs.env hx
  unfold core
  simp only
  rw [hx']
  cases x with
  | tmp t => cases hn
  | _ => rfl

/-! ### blocks -/
theorem lateE_load {id off : Nat} {d : Option Tmp} {t : TypeId} {x : Operand} {ty : TypeId} {pos : String} {af : Array Edge} {g : Option (Nat × Bool)} {env' : List (Nat × AV)} (h : lateL md id = true) (hx : evalO env' x = some (.ptr id off)) : lateE md ops ⟨d, .load t x, ty, pos, af, g⟩ env' = true := by
  cases md with
  | plain => rfl
  | draw b lt mx =>
    cases lt with
    | none => rfl
    | some ws =>
      have h : (Nat.blt id b && !(ws.any fun p => Nat.beq id p.2)) = true := h
      have hl : loadOk ops b ws d id = true := by
        unfold loadOk
        rw [Bool.and_eq_true, Bool.not_eq_true'] at h
        have h2 : (ws.any fun p => lateP ops d p.1 && Nat.beq id p.2) = false := by
          rw [List.any_eq_false] at h ⊢
          intro p hp hq
          rw [Bool.and_eq_true] at hq
          exact h.2 p hp hq.2
        rw [h.1, h2]; simp
      unfold lateE lateNo lateOk
      simp only [hx]
      rw [hl]; rfl
theorem lateE_store {id off : Nat} {d : Option Tmp} {t : TypeId} {a x : Operand} {ty : TypeId} {pos : String} {af : Array Edge} {g : Option (Nat × Bool)} {env' : List (Nat × AV)} (h : lateS md a id = true) (hx : evalO env' a = some (.ptr id off)) : lateE md ops ⟨d, .store t a x, ty, pos, af, g⟩ env' = true := by
  cases md with
  | plain => rfl
  | draw b lt mx =>
    cases lt with
    | none => rfl
    | some ws =>
      have h : (Nat.ble b id || ws.any fun p => slotOf a == some p.1 && Nat.beq id p.2) = true := h
      have hs : stSlot ⟨d, .store t a x, ty, pos, af, g⟩ = slotOf a := by cases a <;> rfl
      unfold lateE lateNo lateOk
      simp only [hx, hs]
      rw [h]; rfl
theorem rdB_to {t : TypeId} {id off : Nat} {b : Blk} {v : AV} (hb : H[id]? = some (some b)) (h : rdB P t off b.e b.cs = some v) : loadA P H t (.ptr id off) = some v := by
  unfold rdB at h
  unfold loadA
  cases hs : sizeT P t with
  | none => rw [hs] at h; cases h
  | some n =>
    rw [hs] at h
    simp only at h ⊢
    cases he : Nat.beq b.e LOOP with
    | true => rw [he] at h; cases h
    | false =>
      rw [he] at h
      cases hle : Nat.ble (off + n) b.cs.length with
      | false => rw [hle] at h; cases h
      | true =>
        rw [hle] at h
        unfold readCells
        rw [hb]
        simp only
        rw [if_pos ⟨he, Nat.ble_eq.mp hle⟩]
        exact h
/-- A load. What is loaded for an 'append' is taken. -/
theorem O_load {sl' : List Nat} {cl' : Cl} (v : AV) {d : Nat} {t : TypeId} {x : Operand} {id off : Nat} {b : Blk} {ty : TypeId} {pos : String} {af : Array Edge} {g : Option (Nat × Bool)} (hw : wantE ops env g = some true) (hx : opE env x = some (.ptr id off)) (hb : H[id]? = some (some b)) (hv : rdB P t off b.e b.cs = some v)
    (hl : lateL md id = true) (hd : Nat.blt d nt = true) (hsl : drp sl d = sl') (hcl : ∀ p, p ∈ cl' → p ∈ cl ∧ (appSrc ops d = true → p ≠ (id, off)))
    (k : O P K nt md ops r ((d, v) :: env) H sl' cl' Q) : O P K nt md ops (⟨some d, .load t x, ty, pos, af, g⟩ :: r) env H sl cl Q := by
  subst hsl
  refine O_step (g := false) rfl hw hd (fun st hs => ?_) k
  have hx' := EnvLe.opd hs.env hx
  refine ⟨cond (owns st.own (.cell id off) && appSrc ops d && (sizeT P t == some 1) && (isAggT P t == some false)) (drop st.own (.cell id off)) st.own, (owns st.own (.cell id off) && appSrc ops d && (sizeT P t == some 1) && (isAggT P t == some false)), ?_, (fun e => by cases e), Ev.of fun n => coreM_of (noYield rfl) ?_⟩
  · cases hc : (owns st.own (.cell id off) && appSrc ops d && (sizeT P t == some 1) && (isAggT P t == some false)) with
    | false => exact hs.own.sub (fun q hq => hq) (fun p hp => (hcl p hp).1)
    | true =>
      rw [Bool.and_eq_true, Bool.and_eq_true, Bool.and_eq_true] at hc
      refine ⟨fun q hq => mem_drop.2 ⟨hs.own.slot q hq, fun e => by cases e⟩, fun i o hp => mem_drop.2 ⟨hs.own.cell i o (hcl _ hp).1, fun e => ?_⟩⟩
      injection e with e1 e2
      exact (hcl _ hp).2 hc.1.1.2 (by rw [e1, e2])
  · rw [coreP_core dry_load (lateE_load hl hx'), hs.H]
    unfold core
    simp only
    rw [hx']
    simp only
    rw [rdB_to hb hv]
    simp only
    show some (cond (owns st.own (.cell id off) && appSrc ops d && (sizeT P t == some 1) && (isAggT P t == some false)) _ _) = _
    cases (owns st.own (.cell id off) && appSrc ops d && (sizeT P t == some 1) && (isAggT P t == some false)) <;> rfl
/-- A block is made. -/
theorem O_alloc {sl' : List Nat} {d : Nat} {e : TypeId} (z : List AV) {ty : TypeId} {pos : String} {af : Array Edge} {g : Option (Nat × Bool)} (hw : wantE ops env g = some true) (hz : zeroT P e = some z) (he : Nat.beq e LOOP = false) (hd : Nat.blt d nt = true) (hsl : drp sl d = sl')
    (k : ∀ id H', H.length = id → H ++ [some ⟨e, z⟩] = H' → O P K nt .plain ops r ((d, .ptr id 0) :: env) H' sl' cl Q) : O P K nt .plain ops (⟨some d, .alloc e, ty, pos, af, g⟩ :: r) env H sl cl Q := by
  subst hsl
  refine O_step (g := false) rfl hw hd (fun st hs => ⟨st.own, false, hs.own, fun e => e, Ev.of fun n => coreM_of (noYield rfl) ?_⟩) (k _ _ rfl rfl)
  rw [coreP_core (by rfl) (by rfl), hs.H]
  unfold core
  simp only
  rw [hz]
  simp only
  rw [if_pos he]
theorem stB_to {t : TypeId} {id off : Nat} {b : Blk} {v : AV} (hb : H[id]? = some (some b)) (h : stB P t off b v = true) : storeA P H t (.ptr id off) v = some (H.set id (some ⟨b.e, splice b.cs off v.cells⟩)) := by
  unfold stB at h
  unfold storeA
  cases hs : sizeT P t with
  | none => rw [hs] at h; cases h
  | some n =>
    rw [hs] at h
    simp only [Bool.and_eq_true, Bool.not_eq_true'] at h
    simp only
    rw [hb]
    simp only
    rw [if_pos ⟨h.1.1.1, Nat.eq_of_beq_eq_true h.1.1.2, Nat.blt_eq.mp h.1.2, Nat.ble_eq.mp h.2⟩]
/-- A store. -/
theorem O_store {sl' : List Nat} {cl' : Cl} {t : TypeId} {a x : Operand} {id off : Nat} {b : Blk} (v : AV) {ty : TypeId} {pos : String} {af : Array Edge} {g : Option (Nat × Bool)} (hw : wantE ops env g = some true) (ha : opE env a = some (.ptr id off)) (hx : opE env x = some v) (hlo : Nat.ble K.lo id = true) (hb : H[id]? = some (some b)) (hs : stB P t off b v = true) (hl : lateS md a id = true)
    (hsl : ∀ q, q ∈ sl' → q ∈ sl ∧ (v.isOne = true → x ≠ .tmp q)) (hcl : ∀ i o, (i, o) ∈ cl' → (i = id ∧ o = off ∧ v.isOne = true ∧ ∃ s, x = .tmp s ∧ s ∈ sl) ∨ ((i, o) ∈ cl ∧ ¬ (i = id ∧ off ≤ o ∧ o < off + v.cells.length)))
    (k : ∀ H', H.set id (some ⟨b.e, splice b.cs off v.cells⟩) = H' → O P K nt md ops r env H' sl' cl' Q) : O P K nt md ops (⟨none, .store t a x, ty, pos, af, g⟩ :: r) env H sl cl Q := by
  refine O_step0 (v := .tup []) rfl hw (fun st hst => ?_) (k _ rfl)
  have ha' := EnvLe.opd hst.env ha
  have hx' := EnvLe.opd hst.env hx
  have hcell : ∀ i o, (i, o) ∈ cl → ¬ (i = id ∧ off ≤ o ∧ o < off + v.cells.length) → Loc.cell i o ∈ dropCells st.own id off v.cells.length := by
    intro i o h1 h2
    unfold dropCells
    refine List.mem_filter.2 ⟨hst.own.cell i o h1, ?_⟩
    simp only [Bool.not_eq_true', Bool.and_eq_false_iff]
    by_cases g1 : i = id
    · by_cases g2 : off ≤ o
      · refine .inr ?_
        cases hb : Nat.blt o (off + v.cells.length) with
        | false => rfl
        | true => exact absurd ⟨g1, g2, Nat.blt_eq.mp hb⟩ h2
      · refine .inl (.inr ?_)
        cases hb : Nat.ble off o with
        | false => rfl
        | true => exact absurd (Nat.ble_eq.mp hb) g2
    · refine .inl (.inl ?_)
      cases hb : Nat.beq i id with
      | false => rfl
      | true => exact absurd (Nat.eq_of_beq_eq_true hb) g1
  have hslot : ∀ q, q ∈ sl → Loc.slot q ∈ dropCells st.own id off v.cells.length := by
    intro q hq
    unfold dropCells
    exact List.mem_filter.2 ⟨hst.own.slot q hq, rfl⟩
  refine ⟨match (generalizing := false) x with
           | .tmp s => cond (owns st.own (.slot s) && v.isOne) (give (drop (dropCells st.own id off v.cells.length) (.slot s)) (.cell id off)) (dropCells st.own id off v.cells.length)
           | _ => dropCells st.own id off v.cells.length, false, ?_, Ev.of fun n => coreM_of (noYield rfl) ?_⟩
  · have triv : (∀ i o, (i, o) ∈ cl' → (i, o) ∈ cl ∧ ¬ (i = id ∧ off ≤ o ∧ o < off + v.cells.length)) → Owned sl' cl' (dropCells st.own id off v.cells.length) := fun h => ⟨fun q hq => hslot q (hsl q hq).1, fun i o hp => hcell i o (h i o hp).1 (h i o hp).2⟩
    have noTmp : (∀ s, x ≠ .tmp s) → Owned sl' cl' (dropCells st.own id off v.cells.length) := fun hn => triv fun i o hp => by
      rcases hcl i o hp with ⟨_, _, _, s, hs, _⟩ | h
      · exact absurd hs (hn s)
      · exact h
    cases x with
    | tmp s =>
      simp only
      cases hc : (owns st.own (.slot s) && v.isOne) with
      | false =>
        refine triv fun i o hp => ?_
        rcases hcl i o hp with ⟨_, _, h1, s', hs, hm⟩ | h
        · injection hs with hs; subst hs
          rw [owns_iff.2 (hst.own.slot s hm), h1] at hc; cases hc
        · exact h
      | true =>
        rw [Bool.and_eq_true] at hc
        simp only [cond_true]
        refine ⟨fun q hq => mem_give.2 (.inr ⟨mem_drop.2 ⟨hslot q (hsl q hq).1, fun e => ?_⟩, fun e => by cases e⟩), fun i o hp => ?_⟩
        · injection e with e; exact (hsl q hq).2 hc.2 (by rw [e])
        · rcases hcl i o hp with ⟨rfl, rfl, _⟩ | ⟨h1, h2⟩
          · exact mem_give.2 (.inl rfl)
          · by_cases e : Loc.cell i o = Loc.cell id off
            · exact mem_give.2 (.inl e)
            · exact mem_give.2 (.inr ⟨mem_drop.2 ⟨hcell i o h1 h2, fun e => by cases e⟩, e⟩)
    | const c => exact noTmp (fun s e => by cases e)
    | global c => exact noTmp (fun s e => by cases e)
    | func c => exact noTmp (fun s e => by cases e)
  · rw [coreP_core dry_store (lateE_store hl ha'), hst.H]
    unfold core
    simp only
    rw [ha', hx']
    simp only
    have hsl' : storeL (md.call P K n ops none).lo P H t (.ptr id off) v = some (H.set id (some ⟨b.e, splice b.cs off v.cells⟩)) := by
      unfold storeL
      simp only
      rw [md.call_lo, hlo]
      exact stB_to hb hs
    rw [hsl']
    rfl

/-! ### calls -/
/-- A call, by what it comes to in the machine. -/
theorem O_callM {o : Oper} {vs : List AV} {gn : FuncId} {R : AV → Hp → Cl → Prop} (hw : wantE ops env o.guard = some true) (hab : md.above K H = true) (hd : (match o.dst with | some d => Nat.blt d nt | none => true) = true)
    (hm : ∀ st n x H' own', Sm env H sl cl st → callK P n (md.know K H ops o.dst) gn vs H (canon (st.own.filter Loc.isCell)) = some (x, H', own') → coreR P K md ops n o st = some ⟨x, H', st.own.filter (fun l => !l.isCell) ++ own'.filter Loc.isCell, false⟩)
    (hc : CallsR P (md.know K H ops o.dst) gn vs H cl R)
    (k : ∀ x H' cl', R x H' cl' → O P K nt md ops r (match o.dst with | some d => (d, x) :: env | none => env) H' (match o.dst with | some d => drp sl d | none => sl) cl' Q) : O P K nt md ops (o :: r) env H sl cl Q := by
  refine ⟨fun st hs => ?_⟩
  obtain ⟨x, H', cl', own', h1, h2, h3⟩ := hc _ hs.own.cells
  cases hdst : o.dst with
  | none =>
    have hk : O P K nt md ops r (match o.dst with | some d => (d, x) :: env | none => env) H' (match o.dst with | some d => drp sl d | none => sl) cl' Q := k x H' cl' h1
    rw [hdst] at hk
    obtain ⟨env1, H1, sl1, cl1, st1, q1, q2, q3⟩ := hk.to ⟨st.env, H', st.own.filter (fun l => !l.isCell) ++ own'.filter Loc.isCell⟩ ⟨hs.env, rfl, hs.own.back h2⟩
    refine ⟨env1, H1, sl1, cl1, st1, q1, q2, (h3.both q3).mono fun n hn => ?_⟩
    unfold runM
    rw [stepM_core (wantE_to hs.env hw) (hm st n x H' own' hs hn.1), hdst]
    exact hn.2
  | some d =>
    have hk : O P K nt md ops r (match o.dst with | some d => (d, x) :: env | none => env) H' (match o.dst with | some d => drp sl d | none => sl) cl' Q := k x H' cl' h1
    rw [hdst] at hk hd
    obtain ⟨env1, H1, sl1, cl1, st1, q1, q2, q3⟩ := hk.to _ (sm_put (g := false) (g' := false) hs (hs.own.back h2) (fun e => e))
    refine ⟨env1, H1, sl1, cl1, st1, q1, q2, (h3.both q3).mono fun n hn => ?_⟩
    unfold runM
    rw [stepM_core (wantE_to hs.env hw) (hm st n x H' own' hs hn.1), hdst]
    unfold Res.put
    simp only
    rw [if_pos (Nat.blt_eq.mp hd)]
    exact hn.2
theorem callM_value {f : Operand} {gn : FuncId} {cap : List AV} {args : Array Operand} {at_ : Array TypeId} {vs : List AV} {dst : Option Tmp} {ty : TypeId} {pos : String} {af : Array Edge} {g : Option (Nat × Bool)} (hf : opE env f = some (.fn gn cap)) (hv : opsE env args.toList = some vs) (hb : hasBody P gn = true) (hab : md.above K H = true) :
    ∀ st n x H' own', Sm env H sl cl st → callK P n (md.know K H ops dst) gn (vs ++ cap) H (canon (st.own.filter Loc.isCell)) = some (x, H', own') → coreR P K md ops n ⟨dst, .call { callee := .value f, args := args, argTypes := at_ }, ty, pos, af, g⟩ st = some ⟨x, H', st.own.filter (fun l => !l.isCell) ++ own'.filter Loc.isCell, false⟩ := by
  intro st n x H' own' hs hn
  refine coreM_of ?_ ?_
  · unfold yieldOp
    simp only
    rw [EnvLe.opd hs.env hf]
  · rw [coreP_core dry_call (lateE_of rfl), hs.H]
    unfold core
    simp only
    rw [EnvLe.opd hs.env hf, EnvLe.ops hs.env hv]
    simp only
    unfold callA
    rw [hb]
    simp only [cond_true]
    have := md.call_run P K n ops dst gn (vs ++ cap) H (canon (st.own.filter Loc.isCell)) hab
    rw [this, hn]
theorem O_call {sl' : List Nat} {d : Nat} {f : Operand} {gn : FuncId} {cap : List AV} {args : Array Operand} {at_ : Array TypeId} (vs : List AV) {R : AV → Hp → Cl → Prop} {ty : TypeId} {pos : String} {af : Array Edge} {g : Option (Nat × Bool)} (hw : wantE ops env g = some true) (hf : opE env f = some (.fn gn cap)) (hv : opsE env args.toList = some vs)
    (hb : hasBody P gn = true) (hab : md.above K H = true) (hd : Nat.blt d nt = true) (hsl : drp sl d = sl') (hc : CallsR P (md.know K H ops (some d)) gn (vs ++ cap) H cl R)
    (k : ∀ x H' cl', R x H' cl' → O P K nt md ops r ((d, x) :: env) H' sl' cl' Q) : O P K nt md ops (⟨some d, .call { callee := .value f, args := args, argTypes := at_ }, ty, pos, af, g⟩ :: r) env H sl cl Q := by
  subst hsl
  exact O_callM hw hab hd (callM_value hf hv hb hab) hc k
end
end Go.Proofs.YtomheegfobcijaaGreatDoor.Am

/- Walks over the machine, fourth part: rules for statements, loops, functions. -/
namespace Go.Proofs.YtomheegfobcijaaGreatDoor.Am
set_option linter.unusedVariables false
set_option linter.unusedSimpArgs false

abbrev K6 := Ex → K4
/-- A statement ends in Q. -/
structure C (P : Program) (K : Know) (vars : Nat → List Nat) (nt : Nat) (c : Code) (env : Env) (H : Hp) (sl : List Nat) (cl : Cl) (Q : K6) : Prop where
  to : ∀ st, Sm env H sl cl st → ∃ e env' H' sl' cl' st', Q e env' H' sl' cl' ∧ Sm env' H' sl' cl' st' ∧ Ev fun n => execK P n K vars nt c st = some (e, st')

/-- What is kept of the slots behind a region. -/
def keepE (vars : List Nat) (env : Env) : Env := vars.filterMap fun s => (lookE env s).map fun v => (s, v)
def keepS (vars : List Nat) (sl : List Nat) : List Nat := sl.filter fun q => vars.any (Nat.beq q)

section
variable {P : Program} {K : Know} {vars : Nat → List Nat} {nt : Nat} {env : Env} {H : Hp} {sl : List Nat} {cl : Cl} {Q : K6}

theorem look_keep (env' : List (Nat × AV)) : ∀ (vs : List Nat) (s : Nat), s ∈ vs → look (vs.map fun s => (s, look env' s)) s = look env' s
  | [], s, h => by cases h
  | a :: r, s, h => by
    show cond (Nat.beq a s) (look env' a) (look (r.map fun s => (s, look env' s)) s) = look env' s
    cases hb : Nat.beq a s with
    | true => simp only [cond_true]; rw [Nat.eq_of_beq_eq_true hb]
    | false =>
      simp only [cond_false]
      rcases List.mem_cons.1 h with rfl | h
      · rw [Nat.beq_refl] at hb; cases hb
      · exact look_keep env' r s h
theorem look_keepE (env : Env) : ∀ (vs : List Nat) (s : Nat) (v : AV), lookE (keepE vs env) s = some v → s ∈ vs ∧ lookE env s = some v
  | [], s, v, h => by cases h
  | a :: r, s, v, h => by
    unfold keepE at h
    rw [List.filterMap_cons] at h
    cases ha : lookE env a with
    | none =>
      rw [ha] at h
      simp only [Option.map_none] at h
      have := look_keepE env r s v h
      exact ⟨List.mem_cons_of_mem _ this.1, this.2⟩
    | some x =>
      rw [ha] at h
      simp only [Option.map_some] at h
      unfold lookE at h
      cases hb : Nat.beq a s with
      | true =>
        rw [hb] at h
        simp only [cond_true] at h
        have e := Nat.eq_of_beq_eq_true hb
        subst e
        exact ⟨List.mem_cons_self, by rw [ha]; exact h⟩
      | false =>
        rw [hb] at h
        simp only [cond_false] at h
        have := look_keepE env r s v h
        exact ⟨List.mem_cons_of_mem _ this.1, this.2⟩
theorem sm_keep {vs : List Nat} {st : St} (h : Sm env H sl cl st) : Sm (keepE vs env) H (keepS vs sl) cl (keep vs st) := by
  refine ⟨fun s v hv => ?_, h.H, ⟨fun s hs => ?_, fun i o hp => ?_⟩⟩
  · obtain ⟨h1, h2⟩ := look_keepE env vs s v hv
    show look (vs.map fun s => (s, look st.env s)) s = v
    rw [look_keep st.env vs s h1]
    exact h.env s v h2
  · unfold keepS at hs
    rw [List.mem_filter] at hs
    exact List.mem_filter.2 ⟨h.own.slot s hs.1, hs.2⟩
  · exact List.mem_filter.2 ⟨h.own.cell i o hp, rfl⟩
theorem sm_keepD {vs : List Nat} {st : St} (h : Sm env H sl cl st) : Sm (keepE vs env) H (keepS vs sl) cl (keepD vs st) := by
  have hk := sm_keep (vs := vs) h
  unfold keepD
  split
  · exact hk
  · refine ⟨fun s v hv => ?_, hk.H, hk.own⟩
    show look ((DEF, look st.env DEF) :: _) s = v
    rw [look_cons]
    by_cases hs : s = DEF
    · subst hs
      rw [if_pos rfl]
      exact h.env _ v (look_keepE env vs _ v hv).2
    · rw [if_neg hs]; exact hk.env s v hv
theorem C_mono {c : Code} {Q' : K6} (h : C P K vars nt c env H sl cl Q) (k : ∀ e env' H' sl' cl', Q e env' H' sl' cl' → Q' e env' H' sl' cl') : C P K vars nt c env H sl cl Q' := by
  refine ⟨fun st hs => ?_⟩
  obtain ⟨e, env', H', sl', cl', st', h1, h2⟩ := h.to st hs
  exact ⟨e, env', H', sl', cl', st', k _ _ _ _ _ h1, h2⟩
/-- Less is known. -/
theorem C_weak {c : Code} {env1 : Env} {sl1 : List Nat} {cl1 : Cl} (h : C P K vars nt c env1 H sl1 cl1 Q) (h1 : ∀ s v, lookE env1 s = some v → lookE env s = some v) (h2 : ∀ s, s ∈ sl1 → s ∈ sl) (h3 : ∀ p, p ∈ cl1 → p ∈ cl) : C P K vars nt c env H sl cl Q :=
  ⟨fun st hs => h.to st ⟨fun s v hv => hs.env s v (h1 s v hv), hs.H, hs.own.sub h2 h3⟩⟩
/-- A region in its order. -/
theorem C_reg {id : Nat} {ops : Array Oper} (h : O P K nt .plain ops.toList ops.toList env H sl cl fun env' H' sl' cl' => Q .normal (keepE (vars id) env') H' (keepS (vars id) sl') cl') : C P K vars nt (.region id ops false) env H sl cl Q := by
  refine ⟨fun st hs => ?_⟩
  obtain ⟨env', H', sl', cl', st', h1, h3, h4⟩ := h.to st hs
  refine ⟨.normal, _, _, _, _, _, h1, sm_keepD h3, h4.succ fun n hn => ?_⟩
  rw [runM_plain] at hn
  rw [exec_succ]
  simp only [execWith, cond_false, hn]
theorem C_one {c : Code} {e : Ex} (h : Q e env H sl cl) (hc : ∀ n st, execK P (n + 1) K vars nt c st = some (e, st)) : C P K vars nt c env H sl cl Q :=
  ⟨fun st hs => ⟨_, _, _, _, _, st, h, hs, (Ev.of fun _ => trivial).succ fun n _ => hc n st⟩⟩
theorem C_skip (h : Q .normal env H sl cl) : C P K vars nt .skip env H sl cl Q := C_one h fun n st => by rw [exec_succ]; rfl
theorem C_label {id : Nat} (h : Q .normal env H sl cl) : C P K vars nt (.label id) env H sl cl Q := C_one h fun n st => by rw [exec_succ]; rfl
theorem C_exit {id : Nat} (h : Q (.exit id) env H sl cl) : C P K vars nt (.exit id) env H sl cl Q := C_one h fun n st => by rw [exec_succ]; rfl
theorem C_ret (h : Q .ret env H sl cl) : C P K vars nt .ret env H sl cl Q := C_one h fun n st => by rw [exec_succ]; rfl
/-- What the second of two statements is left. -/
def seqQ (P : Program) (K : Know) (vars : Nat → List Nat) (nt : Nat) (b : Code) (Q : K6) : K6 := fun e env H sl cl =>
  match e with
  | .normal => C P K vars nt b env H sl cl Q
  | .exit i => Q (.exit i) env H sl cl
  | .ret => Q .ret env H sl cl
  | .goto l => Q (.goto l) env H sl cl
theorem C_seq {a b : Code} (h : C P K vars nt a env H sl cl (seqQ P K vars nt b Q)) (hml : mloopOf a b = none := by rfl) : C P K vars nt (.seq a b) env H sl cl Q := by
  refine ⟨fun st hs => ?_⟩
  obtain ⟨e, env', H', sl', cl', st1, h1, h5, h6⟩ := h.to st hs
  cases e with
  | normal =>
    have h1 : C P K vars nt b env' H' sl' cl' Q := h1
    obtain ⟨e, env'', H'', sl'', cl'', st2, h3, h7, h8⟩ := h1.to st1 h5
    exact ⟨e, _, _, _, _, st2, h3, h7, (h6.both h8).succ fun n hn => by rw [exec_succ]; simp only [execWith, hml, hn.1]; exact hn.2⟩
  | exit i => exact ⟨.exit i, _, _, _, _, st1, h1, h5, h6.succ fun n hn => by rw [exec_succ]; simp only [execWith, hml, hn]⟩
  | ret => exact ⟨.ret, _, _, _, _, st1, h1, h5, h6.succ fun n hn => by rw [exec_succ]; simp only [execWith, hml, hn]⟩
  | goto l => exact ⟨.goto l, _, _, _, _, st1, h1, h5, h6.succ fun n hn => by rw [exec_succ]; simp only [execWith, hml, hn]⟩
theorem C_true {c : Operand} {a b : Code} (hc : opE env c = some (.bool true)) (h : C P K vars nt a env H sl cl Q) : C P K vars nt (.cond c a b) env H sl cl Q := by
  refine ⟨fun st hs => ?_⟩
  obtain ⟨e, env', H', sl', cl', st1, h1, h5, h6⟩ := h.to st hs
  exact ⟨e, _, _, _, _, st1, h1, h5, h6.succ fun n hn => by rw [exec_succ]; simp only [execWith, EnvLe.opd hs.env hc, cond_true, hn]⟩
theorem C_false {c : Operand} {a b : Code} (hc : opE env c = some (.bool false)) (h : C P K vars nt b env H sl cl Q) : C P K vars nt (.cond c a b) env H sl cl Q := by
  refine ⟨fun st hs => ?_⟩
  obtain ⟨e, env', H', sl', cl', st1, h1, h5, h6⟩ := h.to st hs
  exact ⟨e, _, _, _, _, st1, h1, h5, h6.succ fun n hn => by rw [exec_succ]; simp only [execWith, EnvLe.opd hs.env hc, cond_false, hn]⟩
theorem C_cond {c : Operand} {a b : Code} (t : Bool) (hc : opE env c = some (.bool t)) (h1 : t = true → C P K vars nt a env H sl cl Q) (h2 : t = false → C P K vars nt b env H sl cl Q) : C P K vars nt (.cond c a b) env H sl cl Q := by
  cases t with
  | true => exact C_true hc (h1 rfl)
  | false => exact C_false hc (h2 rfl)
/-- By a proposition. -/
theorem C_if {c : Operand} {a b : Code} (p : Prop) [Decidable p] (hc : opE env c = some (.bool (decide p))) (h1 : p → C P K vars nt a env H sl cl Q) (h2 : ¬ p → C P K vars nt b env H sl cl Q) : C P K vars nt (.cond c a b) env H sl cl Q :=
  C_cond (decide p) hc (fun h => h1 (of_decide_eq_true h)) (fun h => h2 (of_decide_eq_false h))
def blkQ (id : Nat) (Q : K6) : K6 := fun e env H sl cl =>
  match e with
  | .normal => Q .normal env H sl cl
  | .exit i => match Nat.beq i id with
    | true => Q .normal env H sl cl
    | false => Q (.exit i) env H sl cl
  | .ret => Q .ret env H sl cl
  | .goto l => Q (.goto l) env H sl cl
theorem C_block {id : Nat} {c : Code} (h : C P K vars nt c env H sl cl (blkQ id Q)) : C P K vars nt (.block id c) env H sl cl Q := by
  refine ⟨fun st hs => ?_⟩
  obtain ⟨e, env', H', sl', cl', st1, h1, h5, h6⟩ := h.to st hs
  cases e with
  | normal => exact ⟨.normal, _, _, _, _, st1, h1, h5, h6.succ fun n hn => by rw [exec_succ]; simp only [execWith, hn]⟩
  | exit i =>
    have h1 : (match Nat.beq i id with | true => Q .normal env' H' sl' cl' | false => Q (.exit i) env' H' sl' cl') := h1
    cases hb : Nat.beq i id with
    | true =>
      rw [hb] at h1
      exact ⟨.normal, _, _, _, _, st1, h1, h5, h6.succ fun n hn => by rw [exec_succ]; simp only [execWith, hn, hb, cond_true]⟩
    | false =>
      rw [hb] at h1
      exact ⟨.exit i, _, _, _, _, st1, h1, h5, h6.succ fun n hn => by rw [exec_succ]; simp only [execWith, hn, hb, cond_false]⟩
  | ret => exact ⟨.ret, _, _, _, _, st1, h1, h5, h6.succ fun n hn => by rw [exec_succ]; simp only [execWith, hn]⟩
  | goto l => exact ⟨.goto l, _, _, _, _, st1, h1, h5, h6.succ fun n hn => by rw [exec_succ]; simp only [execWith, hn]⟩
def loopQ (P : Program) (K : Know) (vars : Nat → List Nat) (nt : Nat) (c : Code) (Q : K6) : K6 := fun e env H sl cl =>
  match e with
  | .normal => C P K vars nt (.loop c) env H sl cl Q
  | .exit i => Q (.exit i) env H sl cl
  | .ret => Q .ret env H sl cl
  | .goto l => Q (.goto l) env H sl cl
theorem C_round {c : Code} (h : C P K vars nt c env H sl cl (loopQ P K vars nt c Q)) : C P K vars nt (.loop c) env H sl cl Q := by
  refine ⟨fun st hs => ?_⟩
  obtain ⟨e, env', H', sl', cl', st1, h1, h5, h6⟩ := h.to st hs
  cases e with
  | normal =>
    have h1 : C P K vars nt (.loop c) env' H' sl' cl' Q := h1
    obtain ⟨e, env'', H'', sl'', cl'', st2, h3, h7, h8⟩ := h1.to st1 h5
    exact ⟨e, _, _, _, _, st2, h3, h7, (h6.both h8).succ fun n hn => by rw [exec_succ]; simp only [execWith, hn.1]; exact hn.2⟩
  | exit i => exact ⟨.exit i, _, _, _, _, st1, h1, h5, h6.succ fun n hn => by rw [exec_succ]; simp only [execWith, hn]⟩
  | ret => exact ⟨.ret, _, _, _, _, st1, h1, h5, h6.succ fun n hn => by rw [exec_succ]; simp only [execWith, hn]⟩
  | goto l => exact ⟨.goto l, _, _, _, _, st1, h1, h5, h6.succ fun n hn => by rw [exec_succ]; simp only [execWith, hn]⟩
end

/-! ### functions -/
def resE (P : Program) (env : Env) (H : Hp) : ResultVar → Option AV
  | .tmp t => lookE env t
  | .cell a t => match lookE env a with
    | some (.ptr id off) => loadA P H t (.ptr id off)
    | _ => none
def ressE (P : Program) (env : Env) (H : Hp) (rs : List ResultVar) : Option AV :=
  match rs with
  | [r] => resE P env H r
  | rs => (rs.mapM (resE P env H)).map .tup
section
variable {P : Program} {K : Know} {env : Env} {H : Hp} {sl : List Nat} {cl : Cl}
theorem resE_to {st : St} (hs : Sm env H sl cl st) {r : ResultVar} {v : AV} (h : resE P env H r = some v) : resultA P st r = some v := by
  cases r with
  | tmp t => show some (look st.env t) = some v; rw [hs.env t v h]
  | cell a t =>
    unfold resE at h
    simp only at h
    unfold resultA
    simp only
    split at h
    · rename_i id off hl
      rw [hs.env _ _ hl, hs.H]
      exact h
    · cases h
theorem resM_to {st : St} (hs : Sm env H sl cl st) : ∀ {rs : List ResultVar} {vs : List AV}, rs.mapM (resE P env H) = some vs → rs.mapM (resultA P st) = some vs
  | [], vs, h => h
  | r :: rs, vs, h => by
    rw [List.mapM_cons] at h ⊢
    cases h1 : resE P env H r with
    | none => rw [h1] at h; cases h
    | some v =>
      cases h2 : rs.mapM (resE P env H) with
      | none => rw [h1, h2] at h; cases h
      | some ws => rw [resE_to hs h1, resM_to hs h2]; rw [h1, h2] at h; exact h
theorem ressE_to {st : St} (hs : Sm env H sl cl st) {rs : List ResultVar} {v : AV} (h : ressE P env H rs = some v) : resultsA P st rs = some v := by
  have key : (rs.mapM (resE P env H)).map AV.tup = some v → (rs.mapM (resultA P st)).map AV.tup = some v := by
    intro h
    cases h2 : rs.mapM (resE P env H) with
    | none => rw [h2] at h; cases h
    | some ws => rw [resM_to hs h2]; rw [h2] at h; exact h
  unfold ressE at h
  unfold resultsA
  match rs, h, key with
  | [], h, key => exact key h
  | [r], h, _ => exact resE_to hs h
  | _ :: _ :: _, h, key => exact key h
/-- What the end of a function is asked. -/
def retQ (P : Program) (rs : List ResultVar) (R : AV → Hp → Cl → Prop) : K6 := fun e env H sl cl =>
  match e with
  | .exit _ => False
  | .goto _ => False
  | .normal => ∃ x, ressE P env H rs = some x ∧ R x H cl
  | .ret => ∃ x, ressE P env H rs = some x ∧ R x H cl
/-- Nothing is deferred in it, and no map is gone through. -/
def noDefer : Code → Bool
  | .region _ ops _ => ops.toList.all fun o => !(isDefer o)
  | .seq a b => (mloopOf a b).isNone && (noDefer a && noDefer b)
  | .cond _ a b => noDefer a && noDefer b
  | .block _ c => noDefer c
  | .loop c => noDefer c
  | .scope c => noDefer c
  | _ => true
theorem label_shape : ∀ (c : Code) (l : Nat) (rest : Code), findLabel c l = some rest → ∀ b, mloopOf rest b = none
  | .seq a b, l, rest, h => by
    unfold findLabel at h
    split at h
    · rename_i r hr
      injection h with h; subst h
      intro b; rfl
    · exact label_shape b l rest h
  | .label l', l, rest, h => by
    unfold findLabel at h
    split at h
    · injection h with h; subst h; intro b; rfl
    · cases h
  | .skip, _, _, h => by cases h
  | .region _ _ _, _, _, h => by cases h
  | .cond _ _ _, _, _, h => by cases h
  | .block _ _, _, _, h => by cases h
  | .loop _, _, _, h => by cases h
  | .rangeFunc _ _ _ _, _, _, h => by cases h
  | .exit _, _, _, h => by cases h
  | .scope _, _, _, h => by cases h
  | .goto _, _, _, h => by cases h
  | .ret, _, _, h => by cases h
  | .refuse _, _, _, h => by cases h
theorem noDefer_label : ∀ (c : Code) (l : Nat) (rest : Code), findLabel c l = some rest → noDefer c = true → noDefer rest = true
  | .seq a b, l, rest, h, hc => by
    simp only [noDefer, Bool.and_eq_true] at hc
    unfold findLabel at h
    split at h
    · rename_i r hr
      injection h with h; subst h
      simp only [noDefer, Bool.and_eq_true]
      exact ⟨by rw [label_shape a l r hr]; rfl, noDefer_label a l r hr hc.2.1, hc.2.2⟩
    · exact noDefer_label b l rest h hc.2.2
  | .label l', l, rest, h, hc => by
    unfold findLabel at h
    split at h
    · injection h with h; subst h; rfl
    · cases h
  | .skip, _, _, h, _ => by cases h
  | .region _ _ _, _, _, h, _ => by cases h
  | .cond _ _ _, _, _, h, _ => by cases h
  | .block _ _, _, _, h, _ => by cases h
  | .loop _, _, _, h, _ => by cases h
  | .rangeFunc _ _ _ _, _, _, h, _ => by cases h
  | .exit _, _, _, h, _ => by cases h
  | .scope _, _, _, h, _ => by cases h
  | .goto _, _, _, h, _ => by cases h
  | .ret, _, _, h, _ => by cases h
  | .refuse _, _, _, h, _ => by cases h
theorem put_def {r : Res} {nt : Nat} {env : List (Nat × AV)} {dst : Option Nat} {st' : St} (h : r.put nt env dst = some st') (hn : nt ≤ DEF) : look st'.env DEF = look env DEF := by
  cases dst with
  | none => simp only [Res.put, Option.some.injEq] at h; subst h; rfl
  | some d =>
    simp only [Res.put] at h
    split at h
    · rename_i hlt
      injection h with h; subst h
      have hlt : d < nt := hlt
      rw [look_cons, if_neg (by omega)]
    · cases h
theorem stepOp_def {nt : Nat} {call : CallA} {pre : Option (Nat × Option WS)} {ops : List Oper} {o : Oper} {st st' : St} (h : stepOp call P nt pre ops o st = some st') (hn : nt ≤ DEF) : look st'.env DEF = look st.env DEF := by
  unfold stepOp at h
  split at h
  · exact put_def h hn
  · cases h
theorem runOps_def {nt : Nat} {c : Oper → CallA} {pre : Option (Nat × Option WS)} {ops : List Oper} (hn : nt ≤ DEF) : ∀ (l : List Oper) {st st' : St}, runOps c P nt pre ops l st = some st' → look st'.env DEF = look st.env DEF := by
  intro l
  induction l with
  | nil => intro st st' h; simp only [runOps, Option.some.injEq] at h; subst h; rfl
  | cons o r ih =>
    intro st st' h
    simp only [runOps] at h
    split at h
    · rename_i s1 h1
      rw [ih h]
      have h1 := (stepV_some h1).1
      unfold stepW at h1
      split at h1
      · exact stepOp_def h1 hn
      · exact put_def h1 hn
      · cases h1
    · cases h
theorem runOpsZ_def {nt : Nat} {call : CallA} {yl : Nat → List AV → List (Option Blk) → List Loc → Option Out} {ops : List Oper} (hn : nt ≤ DEF) : ∀ (l : List Oper) {st st' : St}, (l.all fun o => !(isDefer o)) = true → runOpsZ call yl P nt ops l st = some st' → look st'.env DEF = look st.env DEF := by
  intro l
  induction l with
  | nil => intro st st' _ h; simp only [runOpsZ, Option.some.injEq] at h; subst h; rfl
  | cons o r ih =>
    intro st st' hd h
    simp only [List.all_cons, Bool.and_eq_true] at hd
    simp only [runOpsZ] at h
    split at h
    · rename_i s1 h1
      rw [ih hd.2 h]
      unfold stepZ at h1
      split at h1
      · split at h1
        · split at h1
          · exact put_def h1 hn
          · cases h1
        · split at h1
          · rename_i hz
            have := deferZ_some hz
            rw [this] at hd
            cases hd.1
          · split at h1
            · exact put_def h1 hn
            · exact stepOp_def h1 hn
      · exact put_def h1 hn
      · cases h1
    · cases h
theorem keepD_def (vs : List Nat) (st : St) : look (keepD vs st).env DEF = look st.env DEF := by
  unfold keepD
  split
  · rename_i e
    show look (vs.map fun s => (s, look st.env s)) DEF = _
    by_cases h : DEF ∈ vs
    · exact look_keep _ _ _ h
    · rw [e]
      clear e
      induction vs with
      | nil => rfl
      | cons v r ih =>
        rw [List.map_cons, look_cons, if_neg (fun e => h (by simp [e]))]
        exact ih (fun h' => h (List.mem_cons_of_mem _ h'))
  · show look ((DEF, look st.env DEF) :: _) DEF = _
    rw [look_cons, if_pos rfl]
theorem exec_def {vars : Nat → List Nat} {nt : Nat} (hn : nt ≤ DEF) : ∀ (n : Nat) (c : Code) (st st' : St) (e : Ex), execK P n K vars nt c st = some (e, st') → noDefer c = true → look st'.env DEF = look st.env DEF := by
  intro n
  induction n with
  | zero => intro c st st' e h; cases h
  | succ n ih =>
    intro c st st' e h hd
    rw [exec_succ] at h
    cases c with
    | skip => simp only [execWith, Option.some.injEq, Prod.mk.injEq] at h; obtain ⟨_, rfl⟩ := h; rfl
    | exit i => simp only [execWith, Option.some.injEq, Prod.mk.injEq] at h; obtain ⟨_, rfl⟩ := h; rfl
    | label i => simp only [execWith, Option.some.injEq, Prod.mk.injEq] at h; obtain ⟨_, rfl⟩ := h; rfl
    | goto i => simp only [execWith, Option.some.injEq, Prod.mk.injEq] at h; obtain ⟨_, rfl⟩ := h; rfl
    | ret => simp only [execWith, Option.some.injEq, Prod.mk.injEq] at h; obtain ⟨_, rfl⟩ := h; rfl
    | refuse s => cases h
    | region id ops draw =>
      simp only [execWith] at h
      split at h
      · rename_i s1 h1
        injection h with h; injection h with _ h; subst h
        rw [keepD_def]
        cases draw with
        | false => exact runOpsZ_def hn _ hd h1
        | true =>
          simp only [cond_true] at h1
          split at h1
          · have := runOps_def hn _ h1
            exact this
          · cases h1
      · cases h
    | seq a b =>
      simp only [noDefer, Bool.and_eq_true] at hd
      obtain ⟨hm, hd⟩ := hd
      simp only [execWith, Option.isNone_iff_eq_none.1 hm] at h
      split at h
      · rename_i s1 h1
        rw [ih b _ _ _ h hd.2, ih a _ _ _ h1 hd.1]
      · exact ih a _ _ _ h hd.1
    | cond q a b =>
      simp only [noDefer, Bool.and_eq_true] at hd
      simp only [execWith] at h
      split at h
      · rename_i t _
        cases t with
        | true => exact ih a _ _ _ h hd.1
        | false => exact ih b _ _ _ h hd.2
      · cases h
    | block id c =>
      simp only [execWith] at h
      split at h
      · rename_i i s1 h1
        cases hi : Nat.beq i id with
        | true => rw [hi] at h; simp only [cond_true, Option.some.injEq, Prod.mk.injEq] at h; obtain ⟨_, rfl⟩ := h; exact ih c _ _ _ h1 hd
        | false => rw [hi] at h; simp only [cond_false, Option.some.injEq, Prod.mk.injEq] at h; obtain ⟨_, rfl⟩ := h; exact ih c _ _ _ h1 hd
      · exact ih c _ _ _ h hd
    | loop c =>
      simp only [execWith] at h
      split at h
      · rename_i s1 h1
        rw [ih (.loop c) _ _ _ h hd, ih c _ _ _ h1 hd]
      · exact ih c _ _ _ h hd
    | scope c =>
      simp only [execWith] at h
      have hd : noDefer c = true := hd
      have key : ∀ k d st, noDefer d = true → scopeL (execK P n K vars nt) c k d st = some (e, st') → look st'.env DEF = look st.env DEF := by
        intro k
        induction k with
        | zero => intro d st _ h; cases h
        | succ k ihk =>
          intro d st hdd h
          unfold scopeL at h
          split at h
          · rename_i l s1 h1
            split at h
            · rename_i rest hr
              rw [ihk rest _ (noDefer_label c l rest hr hd) h, ih d _ _ _ h1 hdd]
            · injection h with h; injection h with _ h; subst h
              exact ih d _ _ _ h1 hdd
          · exact ih d _ _ _ h hdd
      exact key _ _ _ hd h
    | rangeFunc g ps a b =>
      simp only [execWith] at h
      cases hc : (noRange a && noRange b && Nat.ble K.lo st.H.length) with
      | false => rw [hc] at h; cases h
      | true =>
        rw [hc] at h
        simp only [cond_true] at h
        unfold rangeA at h
        split at h
        case h_2 => cases h
        split at h
        case h_2 => cases h
        split at h
        case h_2 => cases h
        rename_i s k x y _
        cases hs : Nat.beq s 1 with
        | true => rw [hs] at h; cases h
        | false =>
          rw [hs] at h
          simp only [cond_false] at h
          split at h <;> (injection h with h; injection h with _ h; subst h; rfl)
/-- A call, by its body. -/
theorem calls_by {f : FuncId} {fn : Func} {c : Code} (hf : P.funcs[f]? = some fn) (hb : fn.body = some c) (hK : (K.short f, K.bad f, K.fz f) = (none, false, false)) {args : List AV} {R : AV → Hp → Cl → Prop}
    (hlen : Nat.ble args.length fn.ntmps = true) (hdf : (noDefer c && Nat.ble fn.ntmps DEF) = true := by rfl) (h : C P K (K.vars f) fn.ntmps c (zipArgs 0 args) H [] cl (retQ P fn.results.toList R)) :
    CallsR P K f args H cl R := by
  intro own hown
  have hs : Sm (zipArgs 0 args) H [] cl ⟨zipArgs 0 args, H, own.filter Loc.isCell⟩ :=
    ⟨fun s v hv => look_lookE hv, rfl, ⟨fun s hs => (by cases hs), fun i o hp => List.mem_filter.2 ⟨hown.cell i o hp, rfl⟩⟩⟩
  obtain ⟨e, env', H', sl', cl', st', h1, h7, h8⟩ := h.to _ hs
  have h3 : (match e with | .exit _ => False | .goto _ => False | _ => True) ∧ ∃ x, ressE P env' H' fn.results.toList = some x ∧ R x H' cl' := by
    cases e with
    | normal => exact ⟨trivial, h1⟩
    | exit i => exact h1.elim
    | goto i => exact h1.elim
    | ret => exact ⟨trivial, h1⟩
  obtain ⟨h4, x, h5, h6⟩ := h3
  refine ⟨x, H', cl', st'.own.filter Loc.isCell, h6, ⟨fun s hs => (by cases hs), fun i o hp => List.mem_filter.2 ⟨h7.own.cell i o hp, rfl⟩⟩, h8.succ fun n hn => ?_⟩
  have hr : resultsA P st' fn.results.toList = some x := ressE_to h7 h5
  have hle : args.length ≤ fn.ntmps := Nat.ble_eq.mp hlen
  have hK1 : K.short f = none := congrArg Prod.fst hK
  have hK2 : K.bad f = false := congrArg (fun p => p.2.1) hK
  have hK3 : K.fz f = false := congrArg (fun p => p.2.2) hK
  rw [call_succ]
  rw [Bool.and_eq_true] at hdf
  have hnt : fn.ntmps ≤ DEF := Nat.ble_eq.mp hdf.2
  have hD : look st'.env DEF = .undef := by
    rw [exec_def hnt n c _ _ _ hn hdf.1, look_zip, if_pos (Nat.zero_le _), Nat.sub_zero, List.getD_eq_getElem?_getD, List.getElem?_eq_none (Nat.le_trans hle hnt)]
    rfl
  simp only [hK1, hK2, hK3, fzOut, cond_false, bodyA, hf, hb, if_pos hle, hn]
  have hend : ∀ o, endA (execK P n K) P K fn.results.toList st' = o → (resultsA P st' fn.results.toList).map (fun x => (x, st'.H, st'.own.filter Loc.isCell)) = o := by
    intro o ho
    unfold endA at ho
    rw [hD] at ho
    exact ho
  have hend := hend _ rfl
  cases e with
  | normal => simp only [← hend, hr, Option.map_some, h7.H]
  | ret => simp only [← hend, hr, Option.map_some, h7.H]
  | exit i => exact h4.elim
  | goto i => exact h4.elim
theorem CallsR.mono {f : FuncId} {args : List AV} {R R' : AV → Hp → Cl → Prop} (h : CallsR P K f args H cl R) (k : ∀ x H' cl', R x H' cl' → R' x H' cl') : CallsR P K f args H cl R' := by
  intro own hown
  obtain ⟨x, H', cl', own', h0, h1⟩ := h own hown
  exact ⟨x, H', cl', own', k _ _ _ h0, h1⟩
end
end Go.Proofs.YtomheegfobcijaaGreatDoor.Am

/- Walks over the machine, fifth part: loops over functions. -/
namespace Go.Proofs.YtomheegfobcijaaGreatDoor.Am
set_option linter.unusedVariables false
set_option linter.unusedSimpArgs false

section
variable {P : Program} {K : Know} {nt : Nat} {vars : Nat → List Nat} {ops r : List Oper} {env : Env} {H : Hp} {sl : List Nat} {cl : Cl}

end
end Go.Proofs.YtomheegfobcijaaGreatDoor.Am

/- Walks over the machine, sixth part: small laws. -/
namespace Go.Proofs.YtomheegfobcijaaGreatDoor.Am
set_option linter.unusedVariables false

/-- A place in a function's text: false: the first part, true: the second. -/
def Code.sub : Code → List Bool → Code
  | c, [] => c
  | .seq a _, false :: r => Code.sub a r
  | .seq _ b, true :: r => Code.sub b r
  | .cond _ a _, false :: r => Code.sub a r
  | .cond _ _ b, true :: r => Code.sub b r
  | .block _ c, _ :: r => Code.sub c r
  | .loop c, _ :: r => Code.sub c r
  | c, _ => c
def at_ (f : Func) (p : List Bool) : Code := match f.body with
  | some c => Code.sub c p
  | none => .skip
def More (H H' : List (Option Blk)) : Prop := ∃ E, H' = H ++ E
theorem More.refl (H : List (Option Blk)) : More H H := ⟨[], (List.append_nil H).symm⟩
theorem More.trans {A B C : List (Option Blk)} (h : More A B) (k : More B C) : More A C := by
  obtain ⟨E, rfl⟩ := h; obtain ⟨F, rfl⟩ := k; exact ⟨E ++ F, by rw [List.append_assoc]⟩
theorem More.app (H E : List (Option Blk)) : More H (H ++ E) := ⟨E, rfl⟩
theorem get_app {α : Type} {H : List α} {i : Nat} {a : α} (h : H[i]? = some a) (E : List α) : (H ++ E)[i]? = some a := by rw [List.getElem?_append_left (List.getElem?_eq_some_iff.1 h).1]; exact h
theorem wrap_i64 {n : Int} (h0 : -9223372036854775808 ≤ n) (h1 : n < 9223372036854775808) : IntKind.i64.wrap n = n := by
  have : IntKind.i64.wrap n = (n + 9223372036854775808) % 18446744073709551616 - 9223372036854775808 := by
    simp [IntKind.wrap, IntKind.bits, IntKind.signed]
    split <;> omega
  rw [this]; omega
theorem i64_eq {m n : Int} (h : m = n) (h0 : -9223372036854775808 ≤ n) (h1 : n < 9223372036854775808) : some (AV.int .i64 (IntKind.i64.wrap m)) = some (AV.int .i64 n) := by rw [h, wrap_i64 h0 h1]
end Go.Proofs.YtomheegfobcijaaGreatDoor.Am

/- Readings of arguments, as the abstract machine's values. -/
namespace Go.Proofs.YtomheegfobcijaaGreatDoor.Am
set_option linter.unusedVariables false
set_option linter.unusedSimpArgs false

/-- The types of what comes in: their cells. -/
inductive Ty where
  | bool
  | int (k : IntKind)
  | str
  | slice (e : TypeId) (agg : Bool) (t : Ty)
  | unit
  | pair (a b : Ty)
def Ty.size : Ty → Nat
  | .bool => 1
  | .int _ => 1
  | .str => 1
  | .slice _ _ _ => 1
  | .unit => 0
  | .pair a b => a.size + b.size
def Ty.single : Ty → Bool
  | .unit => false
  | .pair _ _ => false
  | _ => true
def Ty.den : Ty → Type
  | .bool => Bool
  | .int k => { n : Int // (Lit.int k n).wf = true }
  | .str => { s : List UInt8 // s.length ≤ maxLen }
  | .slice _ _ t => Option { p : List t.den × List t.den // p.1.length + p.2.length ≤ maxLen }
  | .unit => Unit
  | .pair a b => a.den × b.den
def elt (agg : Bool) (cs : List AV) : AV :=
  match agg with
  | true => .agg cs
  | false => cs.headD .undef
def Ty.enc : (t : Ty) → t.den → List AV
  | .bool, b => [.bool b]
  | .int k, n => [.int k n.1]
  | .str, s => [.str s.1]
  | .slice e agg t, none => [.nils]
  | .slice e agg t, some p => [.lst e (p.1.1.map fun d => elt agg (t.enc d)) (p.1.2.map fun d => elt agg (t.enc d))]
  | .unit, _ => []
  | .pair a b, d => a.enc d.1 ++ b.enc d.2

def tyFields (f : TypeId → Option Ty) (P : Program) : List Field → Nat → Option Ty
  | [], _ => some .unit
  | fd :: r, off => match f fd.type with
    | some t => if fd.offset = off ∧ P.cellsOf fd.type = t.size then (tyFields f P r (off + t.size)).map (.pair t) else none
    | none => none
def tyOf (P : Program) : Nat → TypeId → Option Ty
  | 0, _ => none
  | n + 1, t => match P.underlying t with
    | some .bool => some .bool
    | some (.int k) => some (.int k)
    | some .string => some .str
    | some (.slice e) => match tyOf P n e, isAggT P e, sizeT P e with
      | some te, some agg, some sz => if sz = te.size ∧ 0 < sz ∧ (agg || te.single) = true then some (.slice e agg te) else none
      | _, _, _ => none
    | some (.struct fs) => match tyFields (tyOf P n) P fs.toList 0 with
      | some T => if P.cellsOf t = T.size then some T else none
      | none => none
    | _ => none

section
variable {P : Program} {w : World} {M : Mem}

/-- Cells that stand for values. -/
structure CR (P : Program) (M : Mem) (xs : List AV) (cs : List Value) : Prop where
  len : xs.length = cs.length
  rep : ∀ i, i < xs.length → Rep P M (xs.getD i .undef) (cs.getD i undef)
  one : ∀ i, i < xs.length → (cs.getD i undef).oneCell' = true
theorem CR.nil : CR P M [] [] := ⟨rfl, fun i h => by simp at h, fun i h => by simp at h⟩
theorem CR.single {x : AV} {v : Value} (r : Rep P M x v) (h : v.oneCell' = true) : CR P M [x] [v] :=
  ⟨rfl, fun i hi => by obtain rfl : i = 0 := by simpa using hi
                       exact r, fun i hi => by obtain rfl : i = 0 := by simpa using hi
                                               exact h⟩
theorem CR.append {xs ys : List AV} {cs ds : List Value} (h : CR P M xs cs) (k : CR P M ys ds) : CR P M (xs ++ ys) (cs ++ ds) := by
  refine ⟨by rw [List.length_append, List.length_append, h.len, k.len], ?_, ?_⟩
  · intro i hi
    rw [List.length_append] at hi
    simp only [List.getD_eq_getElem?_getD]
    by_cases hl : i < xs.length
    · rw [List.getElem?_append_left hl, List.getElem?_append_left (by rw [← h.len]; exact hl)]
      have := h.rep i hl
      simpa only [List.getD_eq_getElem?_getD] using this
    · rw [List.getElem?_append_right (by omega), List.getElem?_append_right (by rw [← h.len]; omega), ← h.len]
      have := k.rep (i - xs.length) (by omega)
      simpa only [List.getD_eq_getElem?_getD] using this
  · intro i hi
    rw [List.length_append] at hi
    simp only [List.getD_eq_getElem?_getD]
    by_cases hl : i < xs.length
    · rw [List.getElem?_append_left (by rw [← h.len]; exact hl)]
      have := h.one i hl
      simpa only [List.getD_eq_getElem?_getD] using this
    · rw [List.getElem?_append_right (by rw [← h.len]; omega), ← h.len]
      have := k.one (i - xs.length) (by omega)
      simpa only [List.getD_eq_getElem?_getD] using this

theorem enc_len : ∀ (t : Ty) (d : t.den), (t.enc d).length = t.size
  | .bool, _ => rfl
  | .int _, _ => rfl
  | .str, _ => rfl
  | .slice _ _ _, none => rfl
  | .slice _ _ _, some _ => rfl
  | .unit, _ => rfl
  | .pair a b, d => by simp only [Ty.enc, Ty.size, List.length_append, enc_len a d.1, enc_len b d.2]
theorem enc_one : ∀ (t : Ty) (d : t.den), t.single = true → ∃ x, t.enc d = [x] ∧ x.cells = [x]
  | .bool, _, _ => ⟨_, rfl, rfl⟩
  | .int _, _, _ => ⟨_, rfl, rfl⟩
  | .str, _, _ => ⟨_, rfl, rfl⟩
  | .slice _ _ _, none, _ => ⟨_, rfl, rfl⟩
  | .slice _ _ _, some _, _ => ⟨_, rfl, rfl⟩
  | .unit, _, h => by cases h
  | .pair a b, d, h => by cases h
theorem elt_cells {agg : Bool} {t : Ty} (h : (agg || t.single) = true) (d : t.den) : (elt agg (t.enc d)).cells = t.enc d := by
  cases agg with
  | true => rfl
  | false =>
    obtain ⟨x, h1, h2⟩ := enc_one t d (by simpa using h)
    rw [h1]; exact h2

theorem cells_at {a : Addr} {n : Nat} {cs : List Value} (h : w.cells? 0 a n = some cs) : cs.length = n ∧ ∀ j, j < n → w.cell? (a.add j) = some (cs.getD j undef) := by
  unfold World.cells? at h
  rw [if_pos (Nat.zero_le _)] at h
  have key : ∀ (l : List Nat) (ys : List Value), l.mapM (fun i => w.cell? (a.add i)) = some ys → ys.length = l.length ∧ ∀ i k, l[i]? = some k → w.cell? (a.add k) = some (ys.getD i undef) := by
    intro l
    induction l with
    | nil => intro ys h; simp at h; subst h; exact ⟨rfl, fun i k h => by simp at h⟩
    | cons x r ih =>
      intro ys h
      rw [List.mapM_cons] at h
      cases hx : w.cell? (a.add x) with
      | none => simp [hx] at h
      | some v =>
        cases hr : r.mapM (fun i => w.cell? (a.add i)) with
        | none => simp [hx, hr] at h
        | some vs =>
          simp [hx, hr] at h; subst h
          obtain ⟨h1, h2⟩ := ih vs hr
          refine ⟨by simp [h1], fun i k hi => ?_⟩
          cases i with
          | zero => simp at hi; subst hi; simpa using hx
          | succ i => simp at hi; simpa using h2 i k hi
  obtain ⟨h1, h2⟩ := key _ _ h
  rw [List.length_range] at h1
  exact ⟨h1, fun j hj => h2 j j (by rw [List.getElem?_range hj])⟩
theorem cell_plain {a : Addr} {v : Value} (h : w.cell? a = some v) : a = ⟨a.block, a.off, none⟩ := by
  unfold World.cell? at h
  split at h
  · split at h
    · cases h
    · rename_i hs
      obtain ⟨b, o, s⟩ := a
      cases s with
      | none => rfl
      | some x => simp at hs
  · cases h
theorem add_plain (b o n : Nat) : (Addr.add ⟨b, o, none⟩ n) = ⟨b, o + n, none⟩ := by
  unfold Addr.add
  split
  · rename_i h; rw [h]; rfl
  · rfl

end
end Go.Proofs.YtomheegfobcijaaGreatDoor.Am

/- Readings of arguments, second part: each reading is a value of its type. -/
namespace Go.Proofs.YtomheegfobcijaaGreatDoor.Am
set_option linter.unusedVariables false
set_option linter.unusedSimpArgs false

section
variable {P : Program} {w : World} {M : Mem} {H : Type} {enc : TypeId × Value → H} {held : Bool}

theorem mapM_each {α β : Type} {g : α → Option β} : ∀ {l : List α} {ys : List β}, l.mapM g = some ys → ∀ x ∈ l, ∃ y, g x = some y
  | [], ys, h, x, hx => by cases hx
  | a :: l, ys, h, x, hx => by
    rw [List.mapM_cons] at h
    cases ha : g a with
    | none => simp [ha] at h
    | some y =>
      cases hl : l.mapM g with
      | none => simp [ha, hl] at h
      | some zs =>
        rcases List.mem_cons.1 hx with rfl | hx
        · exact ⟨y, ha⟩
        · exact mapM_each hl x hx
theorem list_of {α : Type} {Q : Nat → α → Prop} : ∀ n, (∀ i, i < n → ∃ v, Q i v) → ∃ l : List α, l.length = n ∧ ∀ i v, l[i]? = some v → Q i v
  | 0, _ => ⟨[], rfl, fun i v h => by simp at h⟩
  | n + 1, h => by
    obtain ⟨l, h1, h2⟩ := list_of n fun i hi => h i (by omega)
    obtain ⟨v, hv⟩ := h n (by omega)
    refine ⟨l ++ [v], by simp [h1], fun i u hu => ?_⟩
    by_cases hi : i < l.length
    · rw [List.getElem?_append_left hi] at hu; exact h2 i u hu
    · rw [List.getElem?_append_right (by omega)] at hu
      have hi0 : i - l.length = 0 := by
        rcases Nat.eq_zero_or_pos (i - l.length) with h0 | h0
        · exact h0
        · rw [List.getElem?_eq_none (by simp; omega)] at hu; cases hu
      rw [hi0] at hu
      simp at hu; subst hu
      have : i = n := by omega
      subst this; exact hv

theorem slice_ty {e : TypeId} {agg : Bool} {te : Ty} {sz : Nat} (hM : ∀ b o v, w.cell? ⟨b, o, none⟩ = some v → M.pm b o = some v) (hsz : sizeT P e = some sz) (hte : sz = te.size) (hz : 0 < sz) (hs : (agg || te.single) = true) {a : Addr} {len cap : Nat} (hl : len ≤ cap) (hm : cap ≤ maxLen)
    (hel : ∀ i, i < cap → ∃ c v, w.cells? 0 (a.add (i * sz)) sz = some c ∧ CR P M (te.enc v) c) : ∃ v : (Ty.slice e agg te).den, CR P M ((Ty.slice e agg te).enc v) [.slice (some a) len cap] := by
  obtain ⟨all, h1, h2⟩ := list_of (Q := fun i v => ∃ c, w.cells? 0 (a.add (i * sz)) sz = some c ∧ CR P M (te.enc v) c) cap fun i hi => by obtain ⟨c, v, h⟩ := hel i hi; exact ⟨v, c, h⟩
  refine ⟨some ⟨(all.take len, all.drop len), by simp only [List.length_take, List.length_drop]; omega⟩, CR.single ?_ rfl⟩
  have hcat : (all.take len).map (fun d => elt agg (te.enc d)) ++ (all.drop len).map (fun d => elt agg (te.enc d)) = all.map fun d => elt agg (te.enc d) := by
    rw [← List.map_append, List.take_append_drop]
  have hall : ∀ x ∈ all.map (fun d => elt agg (te.enc d)), x.cells.length = sz := by
    intro x hx
    obtain ⟨d, _, rfl⟩ := List.mem_map.1 hx
    rw [elt_cells hs, enc_len, hte]
  have hplain : all ≠ [] → a = ⟨a.block, a.off, none⟩ := by
    intro hne
    obtain ⟨d, r, rfl⟩ : ∃ d r, all = d :: r := by
      cases all with
      | nil => exact absurd rfl hne
      | cons d r => exact ⟨d, r, rfl⟩
    obtain ⟨c, hc, _⟩ := h2 0 d rfl
    have := (cells_at hc).2 0 hz
    rw [Nat.zero_mul] at this
    have e0 : (a.add 0).add 0 = a := by simp [Addr.add]
    rw [e0] at this
    exact cell_plain this
  have hat : ∀ j, j < (flat (all.map fun d => elt agg (te.enc d))).length → ∃ v, w.cell? ⟨a.block, a.off + j, none⟩ = some v ∧ Rep P M ((flat (all.map fun d => elt agg (te.enc d))).getD j .undef) v ∧ v.oneCell' = true := by
    intro j hj
    rw [flat_len _ hall, List.length_map, h1] at hj
    have hdm : j / sz * sz + j % sz = j := by rw [Nat.mul_comm]; exact Nat.div_add_mod j sz
    have hr : j % sz < sz := Nat.mod_lt _ hz
    have hi : j / sz < cap := Nat.div_lt_of_lt_mul (by rw [Nat.mul_comm]; exact hj)
    obtain ⟨d, hd⟩ : ∃ d, all[j / sz]? = some d := ⟨all[j / sz], List.getElem?_eq_getElem (by omega)⟩
    obtain ⟨c, hc, hcr⟩ := h2 _ d hd
    obtain ⟨hc1, hc2⟩ := cells_at hc
    have hcell := hc2 (j % sz) hr
    have hne : all ≠ [] := by rintro rfl; simp at hd
    rw [hplain hne, add_plain, add_plain, Nat.add_assoc, hdm] at hcell
    refine ⟨_, hcell, ?_, hcr.one _ (by rw [enc_len]; omega)⟩
    have := flat_at _ hall (j / sz) (j % sz) (elt agg (te.enc d)) (by rw [List.getElem?_map, hd]; rfl) hr
    rw [hdm] at this
    rw [this, elt_cells hs]
    exact hcr.rep _ (by rw [enc_len]; omega)
  have hlen : ((all.take len).map fun d => elt agg (te.enc d)).length = len := by simp; omega
  have := Rep.lst (P := P) (M := M) e ((all.take len).map fun d => elt agg (te.enc d)) ((all.drop len).map fun d => elt agg (te.enc d)) (some a) cap sz a.block a.off (fun j => (w.cell? ⟨a.block, a.off + j, none⟩).getD undef) hsz hz (by rw [hcat]; exact hall)
    (by simp only [List.length_map, List.length_take, List.length_drop]; omega) (by
      intro hne
      rw [hcat] at hne
      have : all ≠ [] := by rintro rfl; simp at hne
      rw [← hplain this])
    (by intro j hj; rw [hcat] at hj; obtain ⟨v, h3, _⟩ := hat j hj; rw [h3]; exact hM _ _ _ h3)
    (by intro j hj; rw [hcat] at hj ⊢; obtain ⟨v, h3, h4, _⟩ := hat j hj; rw [h3]; exact h4)
    (by intro j hj; rw [hcat] at hj; obtain ⟨v, h3, _, h5⟩ := hat j hj; rw [h3]; exact h5)
  rw [hlen] at this
  exact this

theorem fields_ty {f : TypeId → Option Ty} {g : TypeId → List Value → Option (DataW H × List MemPlace)} (hg : ∀ t T cs y, f t = some T → g t cs = some y → ∃ v : T.den, CR P M (T.enc v) cs) {cs : List Value} : ∀ (fs : List Field) (off : Nat) (T : Ty) (ys : List (DataW H × List MemPlace)), tyFields f P fs off = some T →
    (fs.mapM fun fd => g fd.type ((cs.drop fd.offset).take (P.cellsOf fd.type))) = some ys → ∃ v : T.den, CR P M (T.enc v) ((cs.drop off).take T.size)
  | [], off, T, ys, h, _ => by
    simp only [tyFields, Option.some.injEq] at h; subst h
    exact ⟨(), by simp only [Ty.size, List.take_zero]; exact CR.nil⟩
  | fd :: r, off, T, ys, h, hy => by
    simp only [tyFields] at h
    cases hf : f fd.type with
    | none => rw [hf] at h; cases h
    | some t =>
      rw [hf] at h
      simp only at h
      split at h
      · rename_i hc
        cases hr : tyFields f P r (off + t.size) with
        | none => rw [hr] at h; cases h
        | some T' =>
          rw [hr] at h
          simp only [Option.map_some, Option.some.injEq] at h; subst h
          rw [List.mapM_cons] at hy
          cases hgd : g fd.type ((cs.drop fd.offset).take (P.cellsOf fd.type)) with
          | none => simp [hgd] at hy
          | some y =>
            cases hrr : r.mapM (fun fd => g fd.type ((cs.drop fd.offset).take (P.cellsOf fd.type))) with
            | none => simp [hgd, hrr] at hy
            | some zs =>
              obtain ⟨v, hv⟩ := hg _ _ _ _ hf hgd
              obtain ⟨v', hv'⟩ := fields_ty hg r (off + t.size) T' zs hr hrr
              refine ⟨(v, v'), ?_⟩
              rw [hc.1, hc.2] at hv
              have e : ((cs.drop off).take (t.size + T'.size)) = (cs.drop off).take t.size ++ (cs.drop (off + t.size)).take T'.size := by
                rw [List.take_add, List.drop_drop]
              show CR P M (t.enc v ++ T'.enc v') ((cs.drop off).take (t.size + T'.size))
              rw [e]
              exact hv.append hv'
      · cases h

theorem trod_ty (hM : ∀ b o v, w.cell? ⟨b, o, none⟩ = some v → M.pm b o = some v) : ∀ (n : Nat) (t : TypeId) (T : Ty) (fuel : Nat) (cs : List Value) (y : DataW H × List MemPlace), tyOf P n t = some T → DataW.trod enc P w 0 (fun _ => true) held fuel t cs = some y → ∃ v : T.den, CR P M (T.enc v) cs := by
  intro n
  induction n with
  | zero => intro t T fuel cs y h; cases h
  | succ n ih =>
    intro t T fuel cs y h hr
    cases fuel with
    | zero => simp [DataW.trod] at hr
    | succ fuel =>
      rw [DataW.trod_step] at hr
      unfold DataW.trodStep at hr
      simp only [tyOf] at h
      split at hr
      · rename_i b hu
        rw [hu] at h
        injection h with h; subst h
        exact ⟨b, CR.single (.bool b) rfl⟩
      · rename_i k k' m hu
        rw [hu] at h
        injection h with h; subst h
        split at hr
        · rename_i hk
          obtain ⟨rfl, hw⟩ := hk
          exact ⟨⟨m, hw⟩, CR.single (.int _ m) rfl⟩
        · cases hr
      · rename_i hu; rw [hu] at h; cases h
      · rename_i s hu
        rw [hu] at h
        injection h with h; subst h
        split at hr
        · rename_i hs
          refine ⟨⟨s.data.toList, by rw [Array.length_toList]; exact hs⟩, CR.single ?_ rfl⟩
          exact .str s.data.toList
        · cases hr
      · rename_i hu; rw [hu] at h; cases h
      · rename_i hu; rw [hu] at h; cases h
      · rename_i e hu
        rw [hu] at h
        simp only at h
        split at h
        · split at h
          · injection h with h; subst h
            exact ⟨none, CR.single .nils rfl⟩
          · cases h
        · cases h
      · rename_i e a len cap hu
        rw [hu] at h
        simp only at h
        split at h
        · rename_i te agg sz h1 h2 h3
          split at h
          · rename_i hc
            obtain ⟨c1, c2, c3⟩ := hc
            injection h with h; subst h
            have hcell : P.cellsOf e = sz := by
              unfold Program.cellsOf
              have : (P.info? e).map (·.size) = some sz := h3
              rw [this]; rfl
            rw [hcell] at hr
            simp only at hr
            split at hr
            · rename_i hb
              obtain ⟨_, hl, hm⟩ := hb
              refine slice_ty hM h3 c1 c2 c3 hl hm ?_
              intro i hi
              cases hA : (List.range len).mapM (fun i => (w.cells? 0 (a.add (i * sz)) sz).bind (DataW.trod enc P w 0 (fun _ => true) held fuel e)) with
              | none => rw [hA] at hr; cases hr
              | some elems =>
                rw [hA] at hr
                simp only [Option.bind_some, if_true] at hr
                cases hB : (List.range (cap - len)).mapM (fun j => (w.cells? 0 (a.add ((len + j) * sz)) sz).bind (DataW.trod enc P w 0 (fun _ => true) held fuel e)) with
                | none => rw [hB] at hr; cases hr
                | some rest =>
                  have hex : ∃ y, (w.cells? 0 (a.add (i * sz)) sz).bind (DataW.trod enc P w 0 (fun _ => true) held fuel e) = some y := by
                    by_cases hlt : i < len
                    · exact mapM_each hA i (List.mem_range.2 hlt)
                    · have := mapM_each hB (i - len) (List.mem_range.2 (by omega))
                      have e1 : len + (i - len) = i := by omega
                      rw [e1] at this
                      exact this
                  obtain ⟨y, hy⟩ := hex
                  cases hc : w.cells? 0 (a.add (i * sz)) sz with
                  | none => rw [hc] at hy; cases hy
                  | some c =>
                    rw [hc] at hy
                    obtain ⟨v, hv⟩ := ih e te fuel c y h1 hy
                    exact ⟨c, v, rfl, hv⟩
            · cases hr
          · cases h
        · cases h
      · rename_i cs x2 cs2 fs hu
        rw [hu] at h
        simp only at h
        split at h
        · rename_i T' hT
          split at h
          · rename_i hc
            injection h with h; subst h
            split at hr
            · rename_i hlen
              cases hm : fs.toList.mapM (fun f => DataW.trod enc P w 0 (fun _ => true) held fuel f.type ((cs.drop f.offset).take (P.cellsOf f.type))) with
              | none => rw [hm] at hr; cases hr
              | some ys =>
                obtain ⟨v, hv⟩ := fields_ty (f := tyOf P n) (g := fun t cs => DataW.trod enc P w 0 (fun _ => true) held fuel t cs) (fun t T cs y h1 h2 => ih t T fuel cs y h1 h2) fs.toList 0 _ ys hT hm
                refine ⟨v, ?_⟩
                rw [List.drop_zero, List.take_of_length_le (by rw [hlen, hc]; exact Nat.le_refl _)] at hv
                exact hv
            · cases hr
          · cases h
        · cases h
      all_goals first
        | (rename_i hu; rw [hu] at h; cases h)
        | (cases hr)
        | (rename_i hu _; rw [hu] at h; cases h)

end
end Go.Proofs.YtomheegfobcijaaGreatDoor.Am

/- What a law's function answers, from what the abstract machine says of it. -/
namespace Go.Proofs.YtomheegfobcijaaGreatDoor.Am
set_option linter.unusedVariables false
set_option linter.unusedSimpArgs false

section
variable {P : Program} {K : Know} {W : World}

/-- The memory that comes in: nobody writes it. -/
def G0 (W : World) : Gh := ⟨fun b => match W.heap[b]? with
  | some (.cells c _ _) => c.size
  | _ => 0, fun _ => none, fun _ => 0, fun _ => none, 0⟩
/-- The variables are there, and hold what is known of them. -/
structure GlobAt (W : World) : Prop where
  lt : glN ≤ W.heap.size
  is : GlobIs fun b => if b < glN then W.heap[b]? else none
theorem G0_ok {W : World} (hG : GlobAt W) : GOk (G0 W) W := by
  refine ⟨fun id b h => (by cases h), fun b hb => ⟨?_, rfl, rfl⟩, ⟨fun b hb => ⟨Nat.lt_of_lt_of_le hb hG.lt, fun h => ?_⟩, hG.is⟩⟩
  case refine_2 =>
    rcases h with ⟨⟨id, _, h⟩, _⟩ | h
    · cases h
    · cases h
  show (match W.heap[b]? with | some (.cells c _ _) => c.size | _ => 0) = 0
  rw [Array.getElem?_eq_none hb]
theorem G0_pm (W : World) : ∀ b o v, W.cell? ⟨b, o, none⟩ = some v → ((G0 W).mem W).pm b o = some v := by
  intro b o v h
  show pmOf W (G0 W) b o = some v
  unfold pmOf
  rw [if_pos ?_, h]
  show o < (match W.heap[b]? with | some (.cells c _ _) => c.size | _ => 0)
  unfold World.cell? at h
  split at h
  · rename_i c t fr hb
    rw [hb]
    simp only at h ⊢
    exact (Array.getElem?_eq_some_iff.1 h).1
  · cases h
theorem G0_heap (W : World) : HeapRel P (G0 W) [] W := ⟨fun id b h => (by cases h), fun id b k h => (by cases h), fun i j b k l h => (by cases h), fun id b k h => (by cases h)⟩
theorem G0_foot (W : World) (b : Nat) : ¬ Foot (G0 W) b := by
  rintro (⟨⟨id, _, h⟩, _⟩ | h)
  · cases h
  · cases h

theorem arg_one {T : Ty} {v : Value} {H : Type} {enc : TypeId × Value → H} {n : Nat} {t : TypeId} {d : DataW H} {ps : List MemPlace} (hT : tyOf P n t = some T) (hs : T.single = true) (h : DataW.Trod enc P W 0 (fun _ => true) true t v d ps) (hv : ∀ cs, v ≠ .agg cs) :
    ∃ x : T.den, Rep P ((G0 W).mem W) ((T.enc x).headD .undef) v := by
  obtain ⟨fuel, h⟩ := h
  obtain ⟨x, hx⟩ := trod_ty (G0_pm W) n t T fuel _ _ hT h
  obtain ⟨y, h1, h2⟩ := enc_one T x hs
  refine ⟨x, ?_⟩
  rw [h1] at hx ⊢
  have hc : v.cells.toList = [v] := by
    cases v <;> first | rfl | exact absurd rfl (hv _)
  rw [hc] at hx
  exact hx.rep 0 (by simp)
theorem args_list {M : Mem} {xs : List AV} {vs : List Value} (hl : vs.length = xs.length) (h : ∀ i, i < xs.length → Rep P M (xs.getD i .undef) (vs.getD i undef)) : ArgsRep P M xs vs.toArray :=
  ⟨by simpa using hl, fun i hi => by have := h i hi; simpa [Array.getD_eq_getD_getElem?, List.getD_eq_getElem?_getD] using this⟩

end
end Go.Proofs.YtomheegfobcijaaGreatDoor.Am

/- A call without arguments whose answer is a truth value, told once for all memories: it leaves what the machine holds as it was. -/
namespace Go.Proofs.YtomheegfobcijaaGreatDoor.Am
set_option linter.unusedVariables false
set_option linter.unusedSimpArgs false
open Go.RowKit

section
variable {P : Program} {K : Know}

def idleF (b : Bool) : Nat → List AV → List (Option Blk) → List Loc → Option Out := fun lo args H own => match args with
  | [] => some (.bool b, H, own)
  | _ => none

theorem idle_local {f0 : FuncId} {b : Bool} (lo : Nat) : CallLock ⟨fun f' args H own => if f' = f0 then idleF b lo args H own else none, lo⟩ ∧ CallFill ⟨fun f' args H own => if f' = f0 then idleF b lo args H own else none, lo⟩ := by
  constructor
  · intro f args H own x H' own' h _
    simp only at h
    split at h
    case isFalse => cases h
    unfold idleF at h
    split at h
    · injection h with h; injection h with h1 h; injection h with h2 h3; subst h2; exact Lock.refl _ _
    · cases h
  · intro f args H own x H' own' p k h hp
    simp only at h ⊢
    split at h
    case isFalse => cases h
    rename_i he
    rw [if_pos he]
    unfold idleF at h ⊢
    split at h
    · injection h with h; injection h with h1 h; injection h with h2 h3; subst h1 h2 h3; exact ⟨hp, rfl⟩
    · cases h
theorem idle_sound (hP : POk P) (hS : ShortSound P K) (hL : ShortLocal K) {f0 : FuncId} {b : Bool} {n : Nat} {H' : List (Option Blk)} {own' : List Loc} (h : callK P n K f0 [] [] [] = some (.bool b, H', own')) (lo : Nat) : CallSound P ⟨fun f' args H own => if f' = f0 then idleF b lo args H own else none, lo⟩ := by
  intro f1 args H own out hc G w vals hgl g hH ho ha
  simp only at hc
  split at hc
  case isFalse => cases hc
  rename_i he
  subst he
  cases args with
  | cons x r => cases hc
  | nil =>
  injection hc with hc
  subst hc
  have hnf : ∀ q, ¬ Foot (Gh.mk G.lim (fun _ => none) (fun _ => 0) (fun _ => none) 0) q := by
    rintro q (⟨⟨id, _, h⟩, _⟩ | h)
    · cases h
    · cases h
  have g1 : GOk (Gh.mk G.lim (fun _ => none) (fun _ => 0) (fun _ => none) 0) w := ⟨fun id q h => (by cases h), fun q hq => ⟨(g.new q hq).1, rfl, rfl⟩, ⟨fun b hb => ⟨(g.held.lt b hb).1, hnf b⟩, g.held.is⟩⟩
  have h1 := (machine_sound hP n K hS hL).1 f1 [] [] [] _ h (Gh.mk G.lim (fun _ => none) (fun _ => 0) (fun _ => none) 0) w vals (Nat.zero_le _) g1 ⟨fun id q h => (by cases h), fun id q k h => (by cases h), fun i j q k l h => (by cases h), fun id q k h => (by cases h)⟩ ⟨fun id off q k cs h => (by cases h), fun id off h => (by cases h)⟩ ⟨ha.1, fun i hi => by simp at hi⟩
  refine h1.mono ?_
  rintro e w' ⟨v, G', rfl, hd⟩
  have hr := hd.rep
  have hext : Ext G w (Gh.mk G'.lim G.f G.bs G.owner G.lo) w' := by
    refine ⟨hd.ext.os, hd.ext.tape, hd.ext.output, hd.ext.size, fun q o u hq => hd.ext.prot q o u hq, fun _ _ h => h, fun _ => Nat.le_refl _, fun q hq hn => ?_, rfl⟩
    obtain ⟨a1, a2, _⟩ := hd.ext.foreign q hq (hnf q)
    exact ⟨a1, a2, fun h => hn (h.imp (fun e => ⟨e.1, a2.symm.trans e.2⟩) fun e => e), fun _ h => h⟩
  have hkeep : ∀ l x u, OwnAt P G w l x u → OwnAt P (Gh.mk G'.lim G.f G.bs G.owner G.lo) w' l x u := by
    intro l x u r e xs hx
    obtain ⟨sz, cells, h1, h2, h3, h4⟩ := r e xs hx
    have hlt : ∀ q, u.ownBlock = some q → q < w.heap.size := by
      intro q hq
      rcases h3.2 with ⟨rfl, _⟩ | ⟨g', cap, cur, rfl, _, ⟨fr, hh, _⟩, _⟩
      · simp [Value.ownBlock] at hq
      · have : g' = q := by simpa [Value.ownBlock] using hq
        subst this
        exact (Array.getElem?_eq_some_iff.1 hh).1
    refine ⟨sz, cells, h1, h2, h3.kept ⟨hd.ext.os, hd.ext.tape, hd.ext.output, hd.ext.size, fun i hi _ => (hd.ext.foreign i hi (hnf i)).1⟩ (row := none) (by cases u.ownBlock <;> simp), fun q hq => ⟨(h4 q hq).1, ?_⟩⟩
    show G'.lim q = _
    rw [(hd.ext.foreign q (hlt q hq) (hnf q)).2.1]
    exact (h4 q hq).2
  cases hr
  refine ⟨.bool b, Gh.mk G'.lim G.f G.bs G.owner G.lo, rfl, hext, ⟨fun id q hq => ?_, fun q hq => ?_, hext.held g.held⟩, ⟨hH.dom, fun id q k hq hk => ?_, hH.inj, fun id q k hq hk hn hz => ?_⟩, .bool b, ⟨fun id off q k cs hm hf hk hb => ?_, ho.dom⟩⟩
  · obtain ⟨a1, a3⟩ := g.fin id q hq
    exact ⟨Nat.lt_of_lt_of_le a1 hd.ext.size, a3⟩
  · obtain ⟨a1, a2, a3⟩ := g.new q (Nat.le_trans hd.ext.size hq)
    exact ⟨(hd.ok.new q hq).1, a2, a3⟩
  · exact (hH.blk id q k hq hk).to (hd.ext.foreign q (g.fin id q hq).1 (hnf q)).1 rfl hext.mem
  · show G'.lim q = 0
    rw [(hd.ext.foreign q (g.fin id q hq).1 (hnf q)).2.1]; exact hH.lim id q k hq hk hn hz
  · rw [(hd.ext.foreign q (g.fin id q hf).1 (hnf q)).1] at hb
    exact hkeep _ _ _ (ho.cell id off q k cs hm hf hk hb)

theorem none_sound (hK : K.short = fun _ => none) : ShortSound P K := by
  intro f g h
  rw [hK] at h
  cases h
theorem none_local (hK : K.short = fun _ => none) : ShortLocal K := by
  intro f g h
  rw [hK] at h
  cases h

end
end Go.Proofs.YtomheegfobcijaaGreatDoor.Am

/- Functions of the library, told by heart: what they answer is told by their arguments' values, and nobody's memory is turned. -/
namespace Go.Proofs.YtomheegfobcijaaGreatDoor.Am
set_option linter.unusedVariables false
set_option linter.unusedSimpArgs false
open Go.RowKit

abbrev ShortF := Nat → List AV → List (Option Blk) → List Loc → Option Out
def quiet (F : List AV → Option AV) : ShortF := fun _ args H own => (F args).map fun x => (x, H, own)
/-- A law by heart is right, and local. -/
structure ShortOk (P : Program) (f : FuncId) (g : ShortF) : Prop where
  sound : ∀ lo, CallSound P ⟨fun f' args H own => if f' = f then g lo args H own else none, lo⟩
  loc : ∀ lo, CallLock ⟨fun f' args H own => if f' = f then g lo args H own else none, lo⟩ ∧ CallFill ⟨fun f' args H own => if f' = f then g lo args H own else none, lo⟩
/-- What a contract says of a function. -/
def QuietAt (P : Program) (f : FuncId) (F : List AV → Option AV) : Prop := ∀ args x, F args = some x → ∀ (G : Gh) (w : World) (vals : Array Value), GOk G w → ArgsRep P (G.mem w) args vals →
  Calls P f vals w fun e w' => ∃ v, e = .returned v ∧ Below w.heap.size w w' ∧ (Rep P (G.mem w') x v ∨ ∃ n, w.heap.size < w'.heap.size ∧ Rep P ((G.list w.heap.size n none).mem w') x v)

section
variable {P : Program}
theorem below_grow {G : Gh} {w w' : World} (hb : Below w.heap.size w w') : Grow G w G w' := ⟨hb, fun _ _ => rfl, fun _ _ => rfl, fun _ _ => rfl, fun _ _ h => h, fun _ _ h => .inl h, rfl⟩
theorem below_gok {G : Gh} {w w' : World} (g : GOk G w) (hb : Below w.heap.size w w') : GOk G w' :=
  ⟨fun id b h => ⟨Nat.lt_of_lt_of_le (g.fin id b h).1 hb.size, (g.fin id b h).2⟩, fun b h => g.new b (Nat.le_trans hb.size h), ((below_grow hb).ext g).held g.held⟩
theorem cellOwns_grow {G G' : Gh} {w w' : World} {H : List (Option Blk)} {own : List Loc} (gr : Grow G w G' w') (g : GOk G w) (hf : ∀ id b, G'.f id = some b → G.f id = some b) (ho : CellOwns P G H own w) : CellOwns P G' H own w' :=
  ⟨fun id off b k cs hm hi hk hb => (ho.cell id off b k cs hm (hf id b hi) hk (by rw [← gr.below.block b (g.fin id b (hf id b hi)).1]; exact hb)).grow gr, fun i o hm => (ho.dom i o hm).mono gr.f⟩
theorem quiet_ok {f : FuncId} {F : List AV → Option AV} (h : QuietAt P f F) : ShortOk P f (quiet F) where
  sound := by
    intro lo f1 args H own out hc G w vals hgl g hH ho ha
    simp only at hc
    split at hc
    case isFalse => cases hc
    rename_i he
    subst he
    unfold quiet at hc
    cases hx : F args with
    | none => rw [hx] at hc; cases hc
    | some x =>
      rw [hx] at hc
      injection hc with hc
      subst hc
      refine (h args x hx G w vals g ha).mono ?_
      rintro e w' ⟨v, rfl, hb, hr | ⟨n, hlt, hr⟩⟩
      · exact ⟨v, G, rfl, ⟨(below_grow hb).ext g, below_gok g hb, hH.grow (below_grow hb) g (fun _ _ h => h), hr, cellOwns_grow (below_grow hb) g (fun _ _ h => h) ho⟩⟩
      · exact ⟨v, _, rfl, ⟨(list_grow g hb n none).ext g, list_gok g hb hlt n none, hH.grow (list_grow g hb n none) g (fun _ _ h => h), hr, cellOwns_grow (list_grow g hb n none) g (fun _ _ h => h) ho⟩⟩
  loc := by
    intro lo
    constructor
    · intro f args H own x H' own' h _
      simp only at h
      split at h
      case isFalse => cases h
      unfold quiet at h
      cases hx : F args with
      | none => rw [hx] at h; cases h
      | some y => rw [hx] at h; injection h with h; injection h with h1 h; injection h with h2 h3; subst h2; exact Lock.refl _ _
    · intro f args H own x H' own' p k h hp
      simp only at h ⊢
      split at h
      case isFalse => cases h
      rename_i he
      rw [if_pos he]
      unfold quiet at h ⊢
      cases hx : F args with
      | none => rw [hx] at h; cases h
      | some y => rw [hx] at h; injection h with h; injection h with h1 h; injection h with h2 h3; subst h1 h2 h3; exact ⟨hp, rfl⟩
theorem idle_ok (hP : POk P) {K : Know} (hS : ShortSound P K) (hL : ShortLocal K) {f0 : FuncId} {b : Bool} {n : Nat} {H' : List (Option Blk)} {own' : List Loc} (h : callK P n K f0 [] [] [] = some (.bool b, H', own')) : ShortOk P f0 (idleF b) := ⟨idle_sound hP hS hL h, idle_local⟩

/-- The laws by heart, in a list. -/
def findS : List (FuncId × ShortF) → FuncId → Option ShortF
  | [], _ => none
  | (f, g) :: r, f' => cond (Nat.beq f f') (some g) (findS r f')
def AllOk (P : Program) : List (FuncId × ShortF) → Prop
  | [] => True
  | (f, g) :: r => ShortOk P f g ∧ AllOk P r
theorem findS_ok : ∀ {l : List (FuncId × ShortF)}, AllOk P l → ∀ {f : FuncId} {g : ShortF}, findS l f = some g → ShortOk P f g
  | [], _, f, g, h => by cases h
  | (f0, g0) :: r, hl, f, g, h => by
    unfold findS at h
    cases hb : Nat.beq f0 f with
    | true => rw [hb] at h; injection h with h; subst h; exact (Nat.eq_of_beq_eq_true hb) ▸ hl.1
    | false => rw [hb] at h; exact findS_ok hl.2 h
theorem short_sound {K : Know} {l : List (FuncId × ShortF)} (hK : K.short = findS l) (hl : AllOk P l) : ShortSound P K := fun f g h lo => (findS_ok hl (hK ▸ h)).sound lo
theorem short_local {K : Know} {l : List (FuncId × ShortF)} (hK : K.short = findS l) (hl : AllOk P l) : ShortLocal K := fun f g h lo => (findS_ok hl (hK ▸ h)).loc lo
end
section
variable {P : Program} {K : Know} {H : Hp} {cl : Cl}
end
end Go.Proofs.YtomheegfobcijaaGreatDoor.Am

/- Walks over the machine: small laws for printed walks. -/
namespace Go.Proofs.YtomheegfobcijaaGreatDoor.Am
set_option linter.unusedVariables false

/-- What may be written lies at the end, and the ends of cells that are one's own lie ahead of it. -/
structure Fit (lo : Nat) (cl : Cl) (H : Hp) : Prop where
  lo : lo ≤ H.length
  cl : ∀ i o, (i, o) ∈ cl → i < H.length
theorem More.len {H H' : Hp} (h : More H H') : H.length ≤ H'.length := by obtain ⟨E, rfl⟩ := h; rw [List.length_append]; omega
theorem More.get {H H' : Hp} {i : Nat} {x : Option Blk} (h : More H H') (k : H[i]? = some x) : H'[i]? = some x := by obtain ⟨E, rfl⟩ := h; exact get_app k _
theorem Fit.more {lo : Nat} {cl : Cl} {H H' : Hp} (h : Fit lo cl H) (k : More H H') : Fit lo cl H' := ⟨Nat.le_trans h.lo k.len, fun i o hp => Nat.lt_of_lt_of_le (h.cl i o hp) k.len⟩
/-- A block that a function has made. -/
structure Own (lo : Nat) (cl : Cl) (H0 : Hp) (id : Nat) : Prop where
  lo : Nat.ble lo id = true
  ge : H0.length ≤ id
  cl : ∀ i o, (i, o) ∈ cl → i ≠ id
theorem More.set {H0 H : Hp} {id : Nat} (h : More H0 H) (k : H0.length ≤ id) (b : Option Blk) : More H0 (H.set id b) := by
  obtain ⟨E, rfl⟩ := h
  exact ⟨E.set (id - H0.length) b, by rw [List.set_append_right _ _ k]⟩
/-- A store into such a block leaves the ends of one's own cells. -/
theorem Own.keep {lo : Nat} {cl : Cl} {H0 : Hp} {id off n : Nat} (h : Own lo cl H0 id) {Q : Nat → Nat → Prop} : ∀ i o, (i, o) ∈ cl → Q i o ∨ ((i, o) ∈ cl ∧ ¬ (i = id ∧ off ≤ o ∧ o < off + n)) := fun i o hp => .inr ⟨hp, fun e => h.cl i o hp e.1⟩

section
variable {P : Program} {env : Env} {t e ty : TypeId} {x y i : Operand} {kd : IntKind}
theorem idx_str {s : List UInt8} {k : Nat} {b : UInt8} (hx : opE env x = some (.str s)) (hi : opE env i = some (.int kd (k : Int))) (hu : P.underlying t = some .string) (hb : s[k]? = some b) : pureE P env (.index t x i) = some (.int .u8 (b.toNat : Int)) := by
  unfold pureE
  simp only [hx, hi]
  unfold indexA
  rw [hu]
  simp only
  rw [if_pos (Int.natCast_nonneg k), Int.toNat_natCast, hb]
  rfl
theorem add_i64 {a b : Int} (hx : opE env x = some (.int .i64 a)) (hy : opE env y = some (.int .i64 b)) (h0 : -9223372036854775808 ≤ a + b) (h1 : a + b < 9223372036854775808) : pureE P env (.binOp .add t x y ty) = some (.int .i64 (a + b)) := by
  unfold pureE
  simp only [hx, hy]
  show binOpA P .add t x y (.int .i64 a) (.int .i64 b) = _
  exact i64_eq rfl h0 h1
end
end Go.Proofs.YtomheegfobcijaaGreatDoor.Am

/- A call that was run once by the machine, with arguments and an answer that have no pointers, is told by heart. -/
namespace Go.Proofs.YtomheegfobcijaaGreatDoor.Am
set_option linter.unusedVariables false
set_option linter.unusedSimpArgs false
open Go.RowKit

mutual
/-- Nothing of the machine's own blocks is in it. -/
def pf : AV → Bool
  | .bool _ => true
  | .int _ _ => true
  | .str _ => true
  | .agg cs => pfL cs
  | .tup cs => pfL cs
  | .nils => true
  | .lst _ xs sp => pfL xs && pfL sp
  | .nilp => true
  | .nilfn => true
  | .nili => true
  | .iface _ v => pf v
  | .nilm => true
  | _ => false
def pfL : List AV → Bool
  | [] => true
  | x :: r => pf x && pfL r
end
theorem pfL_mem : ∀ {l : List AV} {x : AV}, pfL l = true → x ∈ l → pf x = true
  | [], x, h, hx => by cases hx
  | y :: r, x, h, hx => by
    simp only [pfL, Bool.and_eq_true] at h
    rcases List.mem_cons.1 hx with rfl | hx
    · exact h.1
    · exact pfL_mem h.2 hx
theorem pf_cells {x : AV} (h : pf x = true) : ∀ y ∈ x.cells, pf y = true := by
  intro y hy
  cases x
  case agg cs => simp only [pf] at h; exact pfL_mem h hy
  all_goals first
    | (simp only [AV.cells, List.mem_singleton] at hy; subst hy; exact h)
    | (simp only [AV.cells, List.not_mem_nil] at hy)
    | (simp only [AV.cells] at hy; simp only [pf] at h; exact pfL_mem h hy)
    | cases h
theorem pf_flat {l : List AV} (h : pfL l = true) : ∀ y ∈ flat l, pf y = true := by
  intro y hy
  unfold flat at hy
  rw [List.mem_flatMap] at hy
  obtain ⟨x, hx, hy⟩ := hy
  exact pf_cells (pfL_mem h hx) y hy
theorem pfL_append {a b : List AV} (ha : pfL a = true) (hb : pfL b = true) : pfL (a ++ b) = true := by
  induction a with
  | nil => exact hb
  | cons x r ih =>
    simp only [pfL, Bool.and_eq_true] at ha
    simp only [List.cons_append, pfL, Bool.and_eq_true]
    exact ⟨ha.1, ih ha.2⟩
theorem getD_mem {l : List AV} {i : Nat} (h : i < l.length) : l.getD i .undef ∈ l := by
  rw [List.getD_eq_getElem?_getD, List.getElem?_eq_getElem h]
  exact List.getElem_mem h
/-- What has no pointers is the same for all who know the same cells. -/
theorem rep_pf {P : Program} {M N : Mem} (hM : ∀ b o v, M.pm b o = some v → N.pm b o = some v) {x : AV} {v : Value} (r : Rep P M x v) (h : pf x = true) : Rep P N x v := by
  induction r with
  | undef v => cases h
  | bool b => exact .bool b
  | int k n => exact .int k n
  | str s => exact .str s
  | agg cs vs hl _ h1 ih => exact .agg cs vs hl (fun i hi => ih i hi (pfL_mem h (getD_mem hi))) h1
  | tup cs vs hl _ ih => exact .tup cs vs hl (fun i hi => ih i hi (pfL_mem h (getD_mem hi)))
  | nils => exact .nils
  | lst e xs sp a cap sz b off c hsz hz hall hcap ha hc _ h1 ih =>
    simp only [pf, Bool.and_eq_true] at h
    exact .lst e xs sp a cap sz b off c hsz hz hall hcap ha (fun j hj => hM _ _ _ (hc j hj)) (fun j hj => ih j hj (pf_flat (pfL_append h.1 h.2) _ (getD_mem hj))) h1
  | sl e id off len b cap sz hf hsz hz hb hl => cases h
  | vw e id off len b cap hf hl => cases h
  | nilp => exact .nilp
  | ptr id off b hf => cases h
  | ept cs off b o c hc _ h1 ih => cases h
  | nilfn => exact .nilfn
  | fn f cap vs hl _ ih => cases h
  | mfn f bs cap us vs kl _ hl _ ik ih => cases h
  | nili => exact .nili
  | iface t x v _ ih => exact .iface t x v (ih h)
  | nilm => exact .nilm
  | map id r hf => cases h
  | yld id l hf => cases h
  | rcd vars nt env ps assign body v => cases h

section
variable {P : Program} {K : Know}
/-- One call, told. -/
def memoF (A : List AV) (x : AV) : ShortF := fun _ args H own => cond (eqL (eqA 1000) args A) (some (x, H, own)) none
theorem memo_ok (hP : POk P) (hS : ShortSound P K) (hL : ShortLocal K) {f0 : FuncId} {A : List AV} {x : AV} {n : Nat} {H' : List (Option Blk)} {own' : List Loc} (h : callK P n K f0 A [] [] = some (x, H', own')) (hA : pfL A = true) (hx : pf x = true) : ShortOk P f0 (memoF A x) where
  loc := by
    intro lo
    constructor
    · intro f args H own x1 H1 own1 h _
      simp only at h
      split at h
      case isFalse => cases h
      unfold memoF at h
      cases he : eqL (eqA 1000) args A with
      | false => rw [he] at h; cases h
      | true => rw [he] at h; injection h with h; injection h with h1 h; injection h with h2 h3; subst h2; exact Lock.refl _ _
    · intro f args H own x1 H1 own1 p k h hp
      simp only at h ⊢
      split at h
      case isFalse => cases h
      rename_i he
      rw [if_pos he]
      unfold memoF at h ⊢
      cases he : eqL (eqA 1000) args A with
      | false => rw [he] at h; cases h
      | true => rw [he] at h; injection h with h; injection h with h1 h; injection h with h2 h3; subst h1 h2 h3; exact ⟨hp, rfl⟩
  sound := by
    intro lo f1 args H own out hc G w vals hgl g hH ho ha
    simp only at hc
    split at hc
    case isFalse => cases hc
    rename_i he
    subst he
    unfold memoF at hc
    cases hq : eqL (eqA 1000) args A with
    | false => rw [hq] at hc; cases hc
    | true =>
    rw [hq] at hc
    injection hc with hc
    subst hc
    obtain rfl := eqL_eq (eqA_eq 1000) hq
    have hnf : ∀ q, ¬ Foot (Gh.mk G.lim (fun _ => none) (fun _ => 0) (fun _ => none) 0) q := by
      rintro q (⟨⟨id, _, h⟩, _⟩ | h)
      · cases h
      · cases h
    have g1 : GOk (Gh.mk G.lim (fun _ => none) (fun _ => 0) (fun _ => none) 0) w := ⟨fun id q h => (by cases h), fun q hq => ⟨(g.new q hq).1, rfl, rfl⟩, ⟨fun b hb => ⟨(g.held.lt b hb).1, hnf b⟩, g.held.is⟩⟩
    have ha1 : ArgsRep P ((Gh.mk G.lim (fun _ => none) (fun _ => 0) (fun _ => none) 0).mem w) args vals := ⟨ha.1, fun i hi => rep_pf (M := G.mem w) (N := (Gh.mk G.lim (fun _ => none) (fun _ => 0) (fun _ => none) 0).mem w) (fun b o v e => e) (ha.2 i hi) (pfL_mem hA (getD_mem hi))⟩
    have h1 := (machine_sound hP n K hS hL).1 f1 args [] [] _ h (Gh.mk G.lim (fun _ => none) (fun _ => 0) (fun _ => none) 0) w vals (Nat.zero_le _) g1 ⟨fun id q h => (by cases h), fun id q k h => (by cases h), fun i j q k l h => (by cases h), fun id q k h => (by cases h)⟩ ⟨fun id off q k cs h => (by cases h), fun id off h => (by cases h)⟩ ha1
    refine h1.mono ?_
    rintro e w' ⟨v, G', rfl, hd⟩
    have hr := hd.rep
    have hext : Ext G w (Gh.mk G'.lim G.f G.bs G.owner G.lo) w' := by
      refine ⟨hd.ext.os, hd.ext.tape, hd.ext.output, hd.ext.size, fun q o u hq => hd.ext.prot q o u hq, fun _ _ h => h, fun _ => Nat.le_refl _, fun q hq hn => ?_, rfl⟩
      obtain ⟨a1, a2, _⟩ := hd.ext.foreign q hq (hnf q)
      exact ⟨a1, a2, fun h => hn (h.imp (fun e => ⟨e.1, a2.symm.trans e.2⟩) fun e => e), fun _ h => h⟩
    have hkeep : ∀ l x u, OwnAt P G w l x u → OwnAt P (Gh.mk G'.lim G.f G.bs G.owner G.lo) w' l x u := by
      intro l x u r e xs hx
      obtain ⟨sz, cells, h1, h2, h3, h4⟩ := r e xs hx
      have hlt : ∀ q, u.ownBlock = some q → q < w.heap.size := by
        intro q hq
        rcases h3.2 with ⟨rfl, _⟩ | ⟨g', cap, cur, rfl, _, ⟨fr, hh, _⟩, _⟩
        · simp [Value.ownBlock] at hq
        · have : g' = q := by simpa [Value.ownBlock] using hq
          subst this
          exact (Array.getElem?_eq_some_iff.1 hh).1
      refine ⟨sz, cells, h1, h2, h3.kept ⟨hd.ext.os, hd.ext.tape, hd.ext.output, hd.ext.size, fun i hi _ => (hd.ext.foreign i hi (hnf i)).1⟩ (row := none) (by cases u.ownBlock <;> simp), fun q hq => ⟨(h4 q hq).1, ?_⟩⟩
      show G'.lim q = _
      rw [(hd.ext.foreign q (hlt q hq) (hnf q)).2.1]
      exact (h4 q hq).2
    refine ⟨v, Gh.mk G'.lim G.f G.bs G.owner G.lo, rfl, hext, ⟨fun id q hq => ?_, fun q hq => ?_, hext.held g.held⟩, ⟨hH.dom, fun id q k hq hk => ?_, hH.inj, fun id q k hq hk hn hz => ?_⟩, rep_pf (M := G'.mem w') (N := (Gh.mk G'.lim G.f G.bs G.owner G.lo).mem w') (fun b o v e => e) hr hx, ⟨fun id off q k cs hm hf hk hb => ?_, ho.dom⟩⟩
    · obtain ⟨a1, a3⟩ := g.fin id q hq
      exact ⟨Nat.lt_of_lt_of_le a1 hd.ext.size, a3⟩
    · obtain ⟨a1, a2, a3⟩ := g.new q (Nat.le_trans hd.ext.size hq)
      exact ⟨(hd.ok.new q hq).1, a2, a3⟩
    · exact (hH.blk id q k hq hk).to (hd.ext.foreign q (g.fin id q hq).1 (hnf q)).1 rfl hext.mem
    · show G'.lim q = 0
      rw [(hd.ext.foreign q (g.fin id q hq).1 (hnf q)).2.1]; exact hH.lim id q k hq hk hn hz
    · rw [(hd.ext.foreign q (g.fin id q hf).1 (hnf q)).1] at hb
      exact hkeep _ _ _ (ho.cell id off q k cs hm hf hk hb)
/-- Some calls of a function, told. -/
def memoT : List (List AV × AV) → ShortF
  | [] => fun _ _ _ _ => none
  | p :: r => fun lo args H own => cond (eqL (eqA 1000) args p.1) (some (p.2, H, own)) (memoT r lo args H own)
def Told (P : Program) (K : Know) (f : FuncId) : List (List AV × AV) → Prop
  | [] => True
  | p :: r => ((∃ n H' own', callK P n K f p.1 [] [] = some (p.2, H', own')) ∧ pfL p.1 = true ∧ pf p.2 = true) ∧ Told P K f r
theorem table_ok (hP : POk P) (hS : ShortSound P K) (hL : ShortLocal K) {f : FuncId} : ∀ {l : List (List AV × AV)}, Told P K f l → ShortOk P f (memoT l)
  | [], _ => by
    have no : ∀ {α : Type} {f1 : FuncId} {y : α}, (if f1 = f then (none : Option α) else none) ≠ some y := by
      intro α f1 y h
      split at h <;> cases h
    exact ⟨fun lo f1 args H own out hc => absurd hc no, fun lo => ⟨fun f1 args H own x1 H1 own1 hc _ => absurd hc no, fun f1 args H own x1 H1 own1 p k hc _ => absurd hc no⟩⟩
  | p :: r, h => by
    obtain ⟨⟨⟨n, H', own', h1⟩, h2, h3⟩, h4⟩ := h
    have hm := memo_ok hP hS hL h1 h2 h3
    have hr := table_ok hP hS hL h4
    refine ⟨fun lo f1 args H own out hc => ?_, fun lo => ⟨fun f1 args H own x1 H1 own1 hc hlo => ?_, fun f1 args H own x1 H1 own1 q k hc hp => ?_⟩⟩
    · simp only at hc
      split at hc
      case isFalse => cases hc
      rename_i he
      cases hq : eqL (eqA 1000) args p.1 with
      | true =>
        refine hm.sound lo f1 args H own out ?_
        simp only
        rw [if_pos he, ← hc]
        simp only [memoF, memoT, hq, cond_true]
      | false =>
        refine hr.sound lo f1 args H own out ?_
        simp only
        rw [if_pos he, ← hc]
        simp only [memoT, hq, cond_false]
    · simp only at hc
      split at hc
      case isFalse => cases hc
      rename_i he
      cases hq : eqL (eqA 1000) args p.1 with
      | true =>
        refine (hm.loc lo).1 f1 args H own x1 H1 own1 ?_ hlo
        simp only
        rw [if_pos he, ← hc]
        simp only [memoF, memoT, hq, cond_true]
      | false =>
        refine (hr.loc lo).1 f1 args H own x1 H1 own1 ?_ hlo
        simp only
        rw [if_pos he, ← hc]
        simp only [memoT, hq, cond_false]
    · simp only at hc ⊢
      split at hc
      case isFalse => cases hc
      rename_i he
      rw [if_pos he]
      cases hq : eqL (eqA 1000) args p.1 with
      | true =>
        have := (hm.loc lo).2 f1 args H own x1 H1 own1 q k (by
          simp only
          rw [if_pos he, ← hc]
          simp only [memoF, memoT, hq, cond_true]) hp
        simp only [if_pos he] at this
        simp only [memoF, hq, cond_true] at this
        simp only [memoT, hq, cond_true]
        exact this
      | false =>
        have := (hr.loc lo).2 f1 args H own x1 H1 own1 q k (by
          simp only
          rw [if_pos he, ← hc]
          simp only [memoT, hq, cond_false]) hp
        simp only [if_pos he] at this
        simp only [memoT, hq, cond_false]
        exact this
end
end Go.Proofs.YtomheegfobcijaaGreatDoor.Am
