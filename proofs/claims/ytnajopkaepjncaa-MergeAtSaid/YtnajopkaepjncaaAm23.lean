/- The abstract machine is right, nineteenth part: regions that draw the order of their operations. -/
import Derived.Test.YtnajopkaepjncaaAm22
import Derived.Orders
namespace Go.Proofs.Ytnajopkaepjncaa.Am
set_option linter.unusedVariables false
set_option linter.unusedSimpArgs false
open Go.RowKit

section
variable {P : Program} {call : CallA} {nt : Nat}

/-! ### what the text of a region says -/
def Listed (l : Array Bool) (k : Nat) : Prop := l.getD k false = true
def Heard (ops : List Oper) (l : Array Bool) (j : Nat) : Prop := ∀ o, ops[j]? = some o → ∀ e ∈ o.after.toList, Region.binds .any e = true → Listed l e.on

theorem ahead_bit (acc : List Nat) (k : Nat) : ∀ (l : List Edge) (m : Nat), (ahead acc l m).testBit k = true → m.testBit k = true ∨ ∃ e ∈ l, Region.binds .any e = true ∧ (k = e.on ∨ (acc.getD e.on 0).testBit k = true)
  | [], m, h => .inl h
  | e :: r, m, h => by
    rcases ahead_bit acc k r _ h with h | ⟨e', h1, h2⟩
    · cases hb : Region.binds .any e with
      | false => rw [hb] at h; exact .inl h
      | true =>
        rw [hb] at h
        simp only [cond_true, Nat.testBit_or, Bool.or_eq_true] at h
        rcases h with (h | h) | h
        · exact .inl h
        · refine .inr ⟨e, by simp, hb, .inl ?_⟩
          rw [Nat.testBit_shiftLeft, Bool.and_eq_true] at h
          have h2 := h.2
          have h1 : k ≥ e.on := by simpa using h.1
          rcases Nat.eq_zero_or_pos (k - e.on) with h0 | h0
          · omega
          · obtain ⟨q, hq⟩ : ∃ q, k - e.on = q + 1 := ⟨k - e.on - 1, by omega⟩
            rw [hq] at h2
            simp [Nat.testBit_succ] at h2
        · exact .inr ⟨e, by simp, hb, .inr h⟩
    · exact .inr ⟨e', by simp [h1], h2⟩

theorem befores_heard {ops : List Oper} {l : Array Bool} (hcl : ∀ k, Listed l k → Heard ops l k) : ∀ (r : List Oper) (acc : List Nat), (∀ k, r[k]? = ops[acc.length + k]?) → (∀ j, Heard ops l j → ∀ k, (acc.getD j 0).testBit k = true → Listed l k) →
    ∀ j, Heard ops l j → ∀ k, ((befores r acc).getD j 0).testBit k = true → Listed l k
  | [], acc, _, h => h
  | o :: r, acc, hr, h => by
    refine befores_heard hcl r _ (fun k => ?_) ?_
    · have := hr (k + 1)
      rw [List.length_append]
      simp only [List.length_cons, List.length_nil]
      rw [← (by omega : acc.length + (k + 1) = acc.length + (0 + 1) + k)]
      simpa using this
    · intro j hj k hk
      rw [List.getD_eq_getElem?_getD] at hk
      rcases Nat.lt_trichotomy j acc.length with hlt | rfl | hgt
      · rw [List.getElem?_append_left hlt, ← List.getD_eq_getElem?_getD] at hk
        exact h j hj k hk
      · rw [List.getElem?_append_right (Nat.le_refl _), Nat.sub_self] at hk
        simp only [List.getElem?_cons_zero, Option.getD_some] at hk
        have ho : ops[acc.length]? = some o := by have := hr 0; simpa using this.symm
        rcases ahead_bit acc k _ _ hk with h0 | ⟨e, he, hb, hk⟩
        · simp at h0
        · have hl := hj o ho e he hb
          rcases hk with rfl | hk
          · exact hl
          · exact h e.on (hcl _ hl) k hk
      · rw [List.getElem?_append_right (by omega)] at hk
        obtain ⟨q, hq⟩ : ∃ q, j - acc.length = q + 1 := ⟨j - acc.length - 1, by omega⟩
        rw [hq] at hk
        simp at hk

theorem region_back {ops : List Oper} (h : regionOk ops = true) {j : Nat} {o : Oper} (ho : ops[j]? = some o) (e : Edge) (he : e ∈ o.after.toList) (hb : Region.binds .any e = true) : e.on < j := by
  unfold regionOk at h
  simp only [Bool.and_eq_true] at h
  have := List.all_eq_true.1 h.1.1 (o, j) (List.mem_zipIdx_iff_getElem?.2 ho)
  have := List.all_eq_true.1 this e he
  rw [hb] at this
  simp only [Bool.not_true, Bool.false_or] at this
  exact Nat.blt_eq.mp this
theorem region_pair {ops : List Oper} (h : regionOk ops = true) {i j : Nat} {x y : Oper} (hx : ops[i]? = some x) (hy : ops[j]? = some y) (hij : i < j) :
    pairOk ops (befores ops []) i j x y = true ∧ ∀ d, x.dst = some d → y.dst ≠ some d := by
  unfold regionOk at h
  simp only [Bool.and_eq_true] at h
  have := List.all_eq_true.1 h.2 (y, j) (List.mem_zipIdx_iff_getElem?.2 hy)
  have := List.all_eq_true.1 this (x, i) (List.mem_zipIdx_iff_getElem?.2 hx)
  simp only at this
  have hb : Nat.blt i j = true := Nat.blt_eq.mpr hij
  rw [hb] at this
  simp only [Bool.not_true, Bool.false_or, Bool.and_eq_true] at this
  refine ⟨this.1, fun d e1 e2 => ?_⟩
  have h2 := this.2
  rw [e1] at h2
  simp only [e2, beq_self_eq_true, Bool.not_true] at h2
  cases h2
theorem pair_unord {ops : List Oper} {bs : List Nat} {i j : Nat} {x y : Oper} (h : pairOk ops bs i j x y = true) (hn : ¬ (bs.getD j 0).testBit i = true) : Unord ops (late ops) x y := by
  unfold pairOk at h
  rw [Bool.or_eq_true] at h
  rcases h with h | h
  · exact absurd h hn
  · simp only [Bool.and_eq_true] at h
    obtain ⟨⟨⟨h1, h2⟩, h3⟩, h4⟩ := h
    refine ⟨?_, ?_, ?_, ?_, ?_⟩
    · intro d hd
      rw [hd] at h1
      simp only [Bool.not_eq_true', Bool.or_eq_false_iff] at h1
      refine ⟨fun hm => ?_, fun e => ?_⟩
      · rw [List.contains_iff_mem.2 hm] at h1; cases h1.1
      · rw [e] at h1; simp at h1
    · intro d hd hm
      rw [hd] at h2
      simp only [Bool.not_eq_true'] at h2
      rw [List.contains_iff_mem.2 hm] at h2; cases h2
    · cases e1 : ends ops x with
      | false => exact .inl rfl
      | true =>
        cases e2 : ends ops y with
        | false => exact .inr rfl
        | true => rw [e1, e2] at h3; cases h3
    · intro e1
      cases e2 : memOp y with
      | false => exact .inl rfl
      | true =>
        rw [e1, e2] at h4
        simp only [Bool.and_self, Bool.true_or, Bool.not_true, Bool.false_or, Bool.and_eq_true, Bool.or_eq_true] at h4
        obtain ⟨h5, h6 | h6⟩ := h4
        · exact .inr ⟨h5, h6⟩
        · have := h6.1
          unfold isLoad at this
          unfold heapOp at e1
          split at this
          · rename_i e; rw [e] at e1; cases e1
          · cases this
    · intro e1
      cases e2 : memOp x with
      | false => exact .inl rfl
      | true =>
        rw [e1, e2] at h4
        simp only [Bool.and_self, Bool.or_true, Bool.not_true, Bool.false_or, Bool.and_eq_true, Bool.or_eq_true] at h4
        obtain ⟨h5, h6 | h6⟩ := h4
        · have := h6.2
          unfold isLoad at this
          unfold heapOp at e1
          split at this
          · rename_i e; rw [e] at e1; cases e1
          · cases this
        · exact .inr ⟨h5, h6.2, h6.1⟩

/-! ### what is still to be done -/
def rest (n : Nat) (l : Array Bool) : List Nat := (List.range n).filter fun k => !l.getD k true
def opsAt (ops : Array Oper) (L : List Nat) : List Oper := L.filterMap fun k => ops[k]?

theorem rest_sorted (n : Nat) (l : Array Bool) : (rest n l).Pairwise (· < ·) := List.Pairwise.filter _ (List.pairwise_lt_range)
theorem mem_rest {n : Nat} {l : Array Bool} (hl : l.size = n) {k : Nat} : k ∈ rest n l ↔ k < n ∧ ¬ Listed l k := by
  unfold rest Listed
  simp only [List.mem_filter, List.mem_range, Bool.not_eq_true']
  constructor
  · rintro ⟨h1, h2⟩
    refine ⟨h1, ?_⟩
    simp only [Array.getD_eq_getD_getElem?] at *
    rw [Array.getElem?_eq_getElem (by omega)] at *
    simp only [Option.getD_some] at *
    rw [h2]; simp
  · rintro ⟨h1, h2⟩
    refine ⟨h1, ?_⟩
    simp only [Array.getD_eq_getD_getElem?] at *
    rw [Array.getElem?_eq_getElem (by omega)] at *
    simpa using h2
theorem rest_take {n : Nat} {l : Array Bool} {i : Nat} {A B : List Nat} (hl : l.size = n) (h : rest n l = A ++ i :: B) : rest n (l.setIfInBounds i true) = A ++ B := by
  have hs := rest_sorted n l
  rw [h] at hs
  have hin : i ∈ rest n l := by rw [h]; simp
  have h1 : rest n (l.setIfInBounds i true) = (rest n l).filter (fun k => !(k == i)) := by
    unfold rest
    rw [List.filter_filter]
    apply List.filter_congr
    intro k hk
    by_cases hki : k = i
    · subst hki
      have : k < l.size := by rw [hl]; exact ((mem_rest hl).1 hin).1
      simp [Array.getD_eq_getD_getElem?, this]
    · have : i ≠ k := fun e => hki e.symm
      simp [Array.getD_eq_getD_getElem?, Array.getElem?_setIfInBounds_ne this, hki]
  rw [h1, h, List.filter_append, List.filter_cons]
  rw [List.pairwise_append] at hs
  obtain ⟨_, hs2, hs3⟩ := hs
  rw [List.pairwise_cons] at hs2
  have hA : A.filter (fun k => !(k == i)) = A := List.filter_eq_self.2 fun k hk => by
    have := hs3 k hk i (by simp)
    simp; omega
  have hB : B.filter (fun k => !(k == i)) = B := List.filter_eq_self.2 fun k hk => by
    have := hs2.1 k hk
    simp; omega
  rw [hA, hB]; simp
theorem listed_set {l : Array Bool} {i k : Nat} (h : Listed (l.setIfInBounds i true) k) : Listed l k ∨ k = i := by
  by_cases hki : k = i
  · exact .inr hki
  · have : i ≠ k := fun e => hki e.symm
    unfold Listed at *
    rw [Array.getD_eq_getD_getElem?, Array.getElem?_setIfInBounds_ne this, ← Array.getD_eq_getD_getElem?] at h
    exact .inl h
theorem listed_more {l : Array Bool} {i k : Nat} (h : Listed l k) : Listed (l.setIfInBounds i true) k := by
  unfold Listed at *
  rw [Array.getD_eq_getD_getElem?] at *
  by_cases hki : k = i
  · subst hki
    cases hk : l[k]? with
    | none => rw [hk] at h; cases h
    | some b =>
      have : k < l.size := (Array.getElem?_eq_some_iff.1 hk).1
      rw [Array.getElem?_setIfInBounds_self_of_lt this]; rfl
  · rw [Array.getElem?_setIfInBounds_ne (fun e => hki e.symm)]; exact h

theorem ready_iff {ops : Array Oper} {l : Array Bool} {i : Nat} (hl : l.size = ops.size) : i ∈ Region.ready .any ops l ↔ i ∈ rest ops.size l ∧ Heard ops.toList l i := by
  unfold Region.ready rest
  simp only [List.mem_filter, List.mem_range, Bool.and_eq_true, Bool.not_eq_true']
  constructor
  · rintro ⟨h1, h2, h3⟩
    refine ⟨⟨h1, h2⟩, ?_⟩
    intro o ho e he hb
    rw [Array.getElem?_toList] at ho
    rw [ho] at h3
    simp only [Option.map_some, Option.getD_some] at h3
    have := (Array.all_eq_true'.1 h3) e (by simpa using he)
    rw [hb] at this
    simp only [Bool.not_true, Bool.false_or] at this
    exact this
  · rintro ⟨⟨h1, h2⟩, h3⟩
    refine ⟨h1, h2, ?_⟩
    rw [Array.getElem?_eq_getElem h1]
    simp only [Option.map_some, Option.getD_some]
    refine Array.all_eq_true'.2 fun e he => ?_
    cases hb : Region.binds .any e with
    | false => rfl
    | true =>
      have := h3 ops[i] (by rw [Array.getElem?_toList, Array.getElem?_eq_getElem h1]) e (by simpa using he) hb
      simp only [Bool.not_true, Bool.false_or]
      exact this

theorem rest_ready {ops : Array Oper} {l : Array Bool} (hreg : regionOk ops.toList = true) (hl : l.size = ops.size) (hr : Region.ready .any ops l = []) : rest ops.size l = [] := by
  cases h : rest ops.size l with
  | nil => rfl
  | cons k r =>
    exfalso
    have hk : k ∈ rest ops.size l := by rw [h]; simp
    have hs := rest_sorted ops.size l
    rw [h, List.pairwise_cons] at hs
    have : k ∈ Region.ready .any ops l := by
      rw [ready_iff hl]
      refine ⟨hk, ?_⟩
      intro o ho e he hb
      have hlt := region_back hreg ho e he hb
      cases hx : l.getD e.on false with
      | true => exact hx
      | false =>
        have hm : e.on ∈ rest ops.size l := (mem_rest hl).2 ⟨by have := ((mem_rest hl).1 hk).1; omega, fun hc => by unfold Listed at hc; rw [hx] at hc; cases hc⟩
        rw [h] at hm
        rcases List.mem_cons.1 hm with e1 | e1
        · omega
        · have := hs.1 _ e1; omega
    rw [hr] at this
    cases this

/-! ### the world counts its draws -/
theorem ownsRow_drew {w : World} {n : Nat} {lo : Nat} {e : TypeId} {sz : Nat} {v : Value} {k : Nat} {cells : List Value} (h : w.ownsRow lo e sz v k cells) : ({ w with drawn := n } : World).ownsRow lo e sz v k cells := h
theorem own_drew {G : Gh} {w : World} {n : Nat} {l : Loc} {x : AV} {v : Value} (h : OwnAt P G w l x v) : OwnAt P G { w with drawn := n } l x v := h
theorem drew_rel {G : Gh} {st : St} {a : Act} {w : World} (n : Nat) (h : Rel P G nt st a w) : Rel P G nt st a { w with drawn := n } :=
  ⟨⟨h.ok.fin, h.ok.new⟩, ⟨h.heap.dom, h.heap.blk, h.heap.inj⟩, ⟨h.own.slot, h.own.cell, h.own.dom⟩, h.env, h.size, h.defers⟩
theorem drew_ext (G : Gh) (w : World) (n : Nat) : Ext G w G { w with drawn := n } :=
  ⟨rfl, rfl, rfl, Nat.le_refl _, fun _ _ _ h => h, fun _ _ h => h, fun _ => Nat.le_refl _, fun _ _ h => ⟨rfl, rfl, h⟩⟩
theorem Rel.eq {G : Gh} {st st' : St} {a : Act} {w : World} (h : Rel P G nt st a w) (e : EqSt st st') : Rel P G nt st' a w := by
  refine ⟨h.ok, e.H ▸ h.heap, ⟨?_, ?_, ?_⟩, ?_, h.size, h.defers⟩
  · intro s hs; rw [← e.env]; exact h.own.slot s ((e.own _).2 hs)
  · intro id off b k cs hm hf hk hb; exact h.own.cell id off b k cs ((e.own _).2 hm) hf (by rw [e.H]; exact hk) hb
  · intro id off hm; rw [← e.H]; exact h.own.dom id off ((e.own _).2 hm)
  · intro s; rw [← e.env]; exact h.env s

/-- Places are kept. -/
theorem rel_holes {G : Gh} {st : St} {a : Act} {w : World} (h : Rel P G nt st a w) (m : Nat) : Rel P G nt { st with H := st.H ++ List.replicate m none } a w := by
  have key : ∀ id b k, G.f id = some b → (st.H ++ List.replicate m none)[id]? = some (some k) → st.H[id]? = some (some k) := by
    intro id b k hf hk
    rw [List.getElem?_append_left (h.heap.dom id b hf).lt] at hk
    exact hk
  exact ⟨h.ok, ⟨fun id b hf => (h.heap.dom id b hf).append _, fun id b k hf hk => h.heap.blk id b k hf (key id b k hf hk), fun i j b k l h1 h2 h3 h4 => h.heap.inj i j b k l h1 h2 (key i b k h1 h3) (key j b l h2 h4)⟩,
    ⟨h.own.slot, fun id off b k cs hm hf hk hb => h.own.cell id off b k cs hm hf (key id b k hf hk) hb, fun id off hm => (h.own.dom id off hm).append _⟩, h.env, h.size, h.defers⟩

theorem any_sound {base : Nat} {ops : Array Oper} {st' : St} {G0 : Gh} {w0 : World} {Q : Exit → Act → World → Prop} (hN : NoNum P) (hcall : CallSound P call) (hreg : regionOk ops.toList = true)
    (hQ : ∀ a' w' G', Rel P G' nt st' a' w' → Ext G0 w0 G' w' → Q Exit.normal a' w') : ∀ (fuel : Nat) (l : Array Bool) (st stX : St) (G : Gh) (a : Act) (w : World), (rest ops.size l).length = fuel → l.size = ops.size →
      (∀ k, Listed l k → Heard ops.toList l k) → runOps call P nt (some (base, late ops.toList)) ops.toList (opsAt ops (rest ops.size l)) st = some stX → EqSt stX st' →
      Rel P G nt st a w → Ext G0 w0 G w → wpAny P .any ops Q fuel l a w := by
  intro fuel
  induction fuel with
  | zero =>
    intro l st stX G a w hf hl hcl hrun heq hR hE
    have hnil : rest ops.size l = [] := List.length_eq_zero_iff.1 hf
    rw [hnil] at hrun
    simp only [opsAt, List.filterMap_nil, runOps, Option.some.injEq] at hrun
    subst hrun
    refine ⟨?_, hQ a w G (hR.eq heq) hE⟩
    cases hr : Region.ready .any ops l with
    | nil => rfl
    | cons k r =>
      have : k ∈ Region.ready .any ops l := by rw [hr]; simp
      rw [ready_iff hl, hnil] at this
      cases this.1
  | succ fuel ih =>
    intro l st stX G a w hf hl hcl hrun heq hR hE
    refine ⟨fun h => ?_, ?_⟩
    · rw [rest_ready hreg hl h] at hf; simp at hf
    · intro i hi
      rw [ready_iff hl] at hi
      obtain ⟨hin, hheard⟩ := hi
      obtain ⟨A, B, hAB⟩ := List.append_of_mem hin
      have hsorted := rest_sorted ops.size l
      rw [hAB] at hsorted
      have hlt := ((mem_rest hl).1 hin).1
      obtain ⟨o, ho⟩ : ∃ o, ops[i]? = some o := ⟨ops[i], Array.getElem?_eq_getElem hlt⟩
      have hsplit : opsAt ops (rest ops.size l) = opsAt ops A ++ o :: opsAt ops B := by
        rw [hAB]; unfold opsAt; rw [List.filterMap_append, List.filterMap_cons_some (f := fun k => ops[k]?) ho]
      have hnext : rest ops.size (l.setIfInBounds i true) = A ++ B := rest_take hl hAB
      rw [hsplit] at hrun
      rw [runOps_append] at hrun
      -- ahead of it
      have hun : ∀ x ∈ opsAt ops A, Unord ops.toList (late ops.toList) x o := by
        intro x hx
        unfold opsAt at hx
        obtain ⟨k, hk, hkx⟩ := List.mem_filterMap.1 hx
        have hkr : k ∈ rest ops.size l := by rw [hAB]; simp [hk]
        rw [List.pairwise_append] at hsorted
        have hki : k < i := hsorted.2.2 k hk i (by simp)
        obtain ⟨h1, h2⟩ := region_pair hreg (i := k) (j := i) (x := x) (y := o) (by rw [Array.getElem?_toList]; exact hkx) (by rw [Array.getElem?_toList]; exact ho) hki
        refine pair_unord h1 fun hm => ?_
        exact ((mem_rest hl).1 hkr).2 (befores_heard hcl ops.toList [] (fun q => by simp) (fun j _ q hq => by simp at hq) i hheard k hm)
      cases hrA : runOps call P nt (some (base, late ops.toList)) ops.toList (opsAt ops A) st with
      | none => rw [hrA] at hrun; cases hrun
      | some stA =>
        rw [hrA] at hrun
        simp only [Option.bind_some, runOps] at hrun
        split at hrun
        case h_2 => cases hrun
        rename_i stB hstB
        have hvalid : ∀ t p id off, o.op = .load t p → evalO st.env p = some (.ptr id off) → Live st.H id := by
          intro t p id off _ e2
          have := hR.env.opd e2
          cases hv : a.eval p <;> rw [hv] at this <;> cases this
          rename_i b hfb
          exact hR.heap.dom _ _ hfb
        obtain ⟨s1, s2, h1, h2, h3⟩ := front (opsAt ops A) hrA hstB hun hvalid
        obtain ⟨stY, h4, h5⟩ := runOps_eq (opsAt ops B) h3.symm hrun
        have hrest : runOps call P nt (some (base, late ops.toList)) ops.toList (opsAt ops (rest ops.size (l.setIfInBounds i true))) s1 = some stY := by
          rw [hnext]
          have : opsAt ops (A ++ B) = opsAt ops A ++ opsAt ops B := by unfold opsAt; rw [List.filterMap_append]
          rw [this, runOps_append, h2]
          exact h4
        have hcl' : ∀ k, Listed (l.setIfInBounds i true) k → Heard ops.toList (l.setIfInBounds i true) k := by
          intro k hk o' ho' e he hb
          rcases listed_set hk with h | rfl
          · exact listed_more (hcl k h o' ho' e he hb)
          · exact listed_more (hheard o' ho' e he hb)
        have hlen : (rest ops.size (l.setIfInBounds i true)).length = fuel := by
          rw [hnext]
          rw [hAB] at hf
          simp only [List.length_append, List.length_cons] at hf ⊢
          omega
        have next : ∀ a' w' G', Rel P G' nt s1 a' w' → Ext G0 w0 G' w' → wpAny P .any ops Q fuel (l.setIfInBounds i true) a' w' := fun a' w' G' hR' hE' =>
          ih _ s1 stY G' a' w' hlen (by simpa using hl) hcl' hrest (h5.symm.trans heq) hR' hE'
        unfold wpOp
        rw [ho]
        simp only
        unfold stepW at h1
        split at h1
        · rename_i hw
          rw [yielded_rel (w := w) hR.env hw, if_pos rfl]
          exact .inl (op_wp hN hcall hR h1 fun a' w' G' hR' hE' => next a' w' G' hR' (hE.trans hE'))
        · rename_i hw
          rw [yielded_rel (w := w) hR.env hw]
          simp only [Bool.false_eq_true, if_false]
          exact next _ _ G (unwanted_put hR h1) hE
        · cases h1

theorem draw_thm (hm : P.follows .mixedOrders = true) (hN : NoNum P) : DrawThm P := by
  intro call hcall nt id ops st st' G a w hreg hrun hR Q hQ
  refine wp_region_any hm ?_
  have hrest : rest ops.size (Array.replicate ops.size false) = List.range ops.size := by
    unfold rest
    refine List.filter_eq_self.2 fun k hk => ?_
    have : k < ops.size := List.mem_range.1 hk
    simp [Array.getD_eq_getD_getElem?, this]
  have hops : opsAt ops (List.range ops.size) = ops.toList := by
    have : ∀ l : List Oper, (List.range l.length).filterMap (fun k => l[k]?) = l := by
      intro l
      induction l with
      | nil => rfl
      | cons o l ih =>
        rw [List.length_cons, List.range_succ_eq_map, List.filterMap_cons_some (f := fun k => (o :: l)[k]?) (a := 0) (b := o) rfl, List.filterMap_map]
        congr 1
    have := this ops.toList
    unfold opsAt
    simpa using this
  refine any_sound (st' := st') (G0 := G) (w0 := w) hN hcall hreg hQ ops.size _ _ st' G a _ (by rw [hrest, List.length_range]) (by simp) ?_ (by rw [hrest, hops]; exact hrun) ⟨fun _ => rfl, rfl, fun _ => Iff.rfl⟩ (drew_rel _ (rel_holes hR _)) (drew_ext _ _ _)
  · intro k hk
    unfold Listed at hk
    rw [Array.getD_eq_getD_getElem?] at hk
    by_cases hlt : k < ops.size
    · simp [hlt] at hk
    · simp [hlt] at hk

end
end Go.Proofs.Ytnajopkaepjncaa.Am
