/- The abstract machine is right, second part: each operation that neither reads nor writes cells. -/
import Derived.Test.YtnajopkaepjncaaAm4
namespace Go.Proofs.Ytnajopkaepjncaa.Am
set_option linter.unusedVariables false
set_option linter.unusedSimpArgs false
open Go.RowKit

section
variable {P : Program} {M : Mem} {w : World}

theorem add_addr (b off n : Nat) : (⟨b, off, none⟩ : Addr).add n = ⟨b, off + n, none⟩ := by
  unfold Addr.add; split <;> simp_all

theorem flat_len {sz : Nat} : ∀ (l : List AV), (∀ x ∈ l, x.cells.length = sz) → (flat l).length = l.length * sz := by
  intro l
  induction l with
  | nil => intro _; simp [flat]
  | cons x r ih =>
    intro h
    have h1 := h x (by simp)
    have h2 := ih (fun y hy => h y (by simp [hy]))
    simp only [flat, List.flatMap_cons, List.length_append, List.length_cons] at *
    rw [h1, h2, Nat.add_mul]; omega
theorem flat_at {sz : Nat} : ∀ (l : List AV), (∀ x ∈ l, x.cells.length = sz) → ∀ (i j : Nat) (x : AV), l[i]? = some x → j < sz → (flat l).getD (i * sz + j) .undef = x.cells.getD j .undef := by
  intro l
  induction l with
  | nil => intro _ i j x hi; simp at hi
  | cons y r ih =>
    intro h i j x hi hj
    have h1 := h y (by simp)
    have hr : ∀ x ∈ r, x.cells.length = sz := fun z hz => h z (by simp [hz])
    cases i with
    | zero =>
      simp only [List.getElem?_cons_zero, Option.some.injEq] at hi; subst hi
      simp only [flat, List.flatMap_cons, Nat.zero_mul, Nat.zero_add, List.getD_eq_getElem?_getD]
      rw [List.getElem?_append_left (by omega)]
    | succ i =>
      simp only [List.getElem?_cons_succ] at hi
      have := ih hr i j x hi hj
      simp only [flat, List.flatMap_cons, List.getD_eq_getElem?_getD] at *
      rw [List.getElem?_append_right (by rw [h1, Nat.add_mul]; omega), h1]
      rw [← this]
      congr 2
      rw [Nat.add_mul]; omega

theorem idx_lt {i n sz j : Nat} (h : i < n) (hj : j < sz) : i * sz + j < n * sz := by
  have : (i + 1) * sz ≤ n * sz := Nat.mul_le_mul_right _ h
  rw [Nat.add_mul] at this; omega

/-- An element's own cells. -/
theorem lst_elem {e : TypeId} {xs sp : List AV} {v : Value} (r : Rep P M (.lst e xs sp) v) (i : Nat) (x : AV) (hx : (xs ++ sp)[i]? = some x) :
    ∃ b off cap sz, sizeT P e = some sz ∧ 0 < sz ∧ v = .slice (some ⟨b, off, none⟩) xs.length cap ∧ Rep P M (.ept x.cells 0) (.pointer (some ⟨b, off + i * sz, none⟩)) ∧ x.cells.length = sz := by
  cases r with
  | lst _ _ _ a cap sz b off c hsz hz hall hcap ha hc hr h1 =>
    have hne : xs ++ sp ≠ [] := by intro e; rw [e] at hx; simp at hx
    obtain rfl := ha hne
    have hlt : i < (xs ++ sp).length := by
      rcases Nat.lt_or_ge i (xs ++ sp).length with h | h
      · exact h
      · rw [List.getElem?_eq_none h] at hx; cases hx
    have hxl : x.cells.length = sz := hall x (List.mem_of_getElem? hx)
    have hfl := flat_len _ hall
    refine ⟨b, off, cap, sz, hsz, hz, rfl, ?_, hxl⟩
    have := Rep.ept (P := P) (M := M) x.cells 0 b (off + i * sz) (fun j => c (i * sz + j)) ?_ ?_ ?_
    · simpa using this
    · intro j hj
      have := hc (i * sz + j) (by rw [hfl]; exact idx_lt hlt (by omega))
      rw [← Nat.add_assoc] at this; exact this
    · intro j hj
      have := hr (i * sz + j) (by rw [hfl]; exact idx_lt hlt (by omega))
      rw [flat_at _ hall i j x hx (by omega)] at this; exact this
    · intro j hj
      exact h1 (i * sz + j) (by rw [hfl]; exact idx_lt hlt (by omega))

/-! ### cuts -/
theorem slice_bound {x : AV} {v : Value} {i : Nat} {y top : Nat} {code : BoundsCode} (r : Rep P M x v) (h : boundA (some x) 0 top = some i) (ht : top ≤ y) : (Instr.sliceBound v y code).run P w = .ok i w ∧ i ≤ top := by
  unfold boundA at h
  split at h
  · rename_i h'; cases h'
  · rename_i h'
    injection h' with h'
    subst h'
    cases r
    split at h
    · rename_i hi
      injection h with h; subst h
      refine ⟨?_, by omega⟩
      simp only [Instr.sliceBound, asIntOf, Sem.run_bind, Sem.run_pure, Result.andThen_ok]
      rw [if_pos (by omega)]; rfl
    · cases h
  · cases h
theorem boundA_dflt {x : AV} {d d' top : Nat} : boundA (some x) d top = boundA (some x) d' top := by unfold boundA; cases x <;> rfl

def optRep (P : Program) (M : Mem) : Option AV → Option Value → Prop
  | none, none => True
  | some x, some v => Rep P M x v
  | _, _ => False

theorem bounds_sound {lo hi mx : Option AV} {lo' hi' mx' : Option Value} (rl : optRep P M lo lo') (rh : optRep P M hi hi') (rm : optRep P M mx mx') {len cap kn m h l : Nat} {isS : Bool}
    (hm : boundA mx kn kn = some m) (hh : boundA hi len m = some h) (hl : boundA lo 0 h = some l) (hk : kn ≤ cap) (hlen : len ≤ kn) (hmh : mx.isSome → hi.isSome) :
    ∃ m', (Instr.sliceBounds isS len cap lo' hi' mx').run P w = .ok (l, h, m') w ∧ l ≤ h ∧ h ≤ m ∧ m ≤ m' ∧ m' ≤ cap ∧ m ≤ kn := by
  unfold Instr.sliceBounds
  cases mx with
  | none =>
    cases mx' with
    | some _ => exact rm.elim
    | none =>
      simp only [boundA, Option.some.injEq] at hm; subst hm
      cases hi with
      | none =>
        cases hi' with
        | some _ => exact rh.elim
        | none =>
          simp only [boundA, Option.some.injEq] at hh; subst hh
          cases lo with
          | none =>
            cases lo' with
            | some _ => exact rl.elim
            | none => simp only [boundA, Option.some.injEq] at hl; subst hl; exact ⟨cap, by simp, by omega, by omega, by omega, by omega, by omega⟩
          | some x =>
            cases lo' with
            | none => exact rl.elim
            | some v =>
              have hb := slice_bound (w := w) (code := if (Option.none : Option Value).isSome then .slice3C else .sliceB) rl hl (Nat.le_refl _)
              exact ⟨cap, by simp [hb.1] at *; simp [hb.1], by omega, by omega, by omega, by omega, by omega⟩
      | some y =>
        cases hi' with
        | none => exact rh.elim
        | some v =>
          rw [boundA_dflt (d' := 0)] at hh
          have hb := slice_bound (w := w) (y := cap) (code := if isS then .sliceAcap else .sliceAlen) rh hh hk
          cases lo with
          | none =>
            cases lo' with
            | some _ => exact rl.elim
            | none => simp only [boundA, Option.some.injEq] at hl; subst hl; exact ⟨cap, by simp [hb.1], by omega, by omega, by omega, by omega, by omega⟩
          | some x =>
            cases lo' with
            | none => exact rl.elim
            | some v' =>
              have hb2 := slice_bound (w := w) (code := .sliceB) rl hl (Nat.le_refl _)
              exact ⟨cap, by simp [hb.1, hb2.1], by omega, by omega, by omega, by omega, by omega⟩
  | some z =>
    cases mx' with
    | none => exact rm.elim
    | some vz =>
      rw [boundA_dflt (d' := 0)] at hm
      have hb0 := slice_bound (w := w) (y := cap) (code := if isS then .slice3Acap else .slice3Alen) rm hm hk
      cases hi with
      | none => simp at hmh
      | some y =>
        cases hi' with
        | none => exact rh.elim
        | some v =>
          rw [boundA_dflt (d' := 0)] at hh
          have hb := slice_bound (w := w) (y := m) (code := .slice3B) rh hh (Nat.le_refl _)
          cases lo with
          | none =>
            cases lo' with
            | some _ => exact rl.elim
            | none => simp only [boundA, Option.some.injEq] at hl; subst hl; exact ⟨m, by simp [hb0.1, hb.1], by omega, by omega, by omega, by omega, by omega⟩
          | some x =>
            cases lo' with
            | none => exact rl.elim
            | some v' =>
              have hb2 := slice_bound (w := w) (code := .slice3C) rl hl (Nat.le_refl _)
              exact ⟨m, by simp [hb0.1, hb.1, hb2.1], by omega, by omega, by omega, by omega, by omega⟩

theorem flat_append (xs ys : List AV) : flat (xs ++ ys) = flat xs ++ flat ys := by simp [flat]

/-- A part of a list. -/
theorem lst_sub {e : TypeId} {xs sp : List AV} {a : Option Addr} {cap sz b off : Nat} {c : Nat → Value} (hsz : sizeT P e = some sz) (hz : 0 < sz)
      (hall : ∀ x ∈ xs ++ sp, x.cells.length = sz) (hcap : xs.length + sp.length ≤ cap) (ha : xs ++ sp ≠ [] → a = some ⟨b, off, none⟩)
      (hc : ∀ j, j < (flat (xs ++ sp)).length → M.pm b (off + j) = some (c j))
      (hr : ∀ j, j < (flat (xs ++ sp)).length → Rep P M ((flat (xs ++ sp)).getD j .undef) (c j))
      (h1 : ∀ j, j < (flat (xs ++ sp)).length → (c j).oneCell' = true) (l h m m' : Nat) (hlh : l ≤ h) (hhm : h ≤ m) (hm : m ≤ xs.length + sp.length) (hmm : m ≤ m') (a' : Option Addr) (ha' : l < m → a' = some ⟨b, off + l * sz, none⟩) :
      Rep P M (.lst e (((xs ++ sp).take h).drop l) (((xs ++ sp).take m).drop h)) (.slice a' (h - l) (m' - l)) := by
  have hlen : (((xs ++ sp).take h).drop l).length = h - l := by simp; omega
  have hlen2 : (((xs ++ sp).take m).drop h).length = m - h := by simp; omega
  have hcat : ((xs ++ sp).take h).drop l ++ ((xs ++ sp).take m).drop h = ((xs ++ sp).take m).drop l := by
    apply List.ext_getElem?
    intro i
    rw [List.getElem?_append, hlen]
    by_cases hi : i < h - l
    · rw [if_pos hi, List.getElem?_drop, List.getElem?_drop, List.getElem?_take, List.getElem?_take, if_pos (by omega), if_pos (by omega)]
    · rw [if_neg hi, List.getElem?_drop, List.getElem?_drop]
      congr 1
      omega
  have hfl := flat_len _ hall
  have hall' : ∀ x ∈ ((xs ++ sp).take m).drop l, x.cells.length = sz := fun x hx => hall x (List.mem_of_mem_take (List.mem_of_mem_drop hx))
  have hfl' := flat_len _ hall'
  have hl3 : (((xs ++ sp).take m).drop l).length = m - l := by simp; omega
  have hget : ∀ j, j < (m - l) * sz → (flat (((xs ++ sp).take m).drop l)).getD j .undef = (flat (xs ++ sp)).getD (l * sz + j) .undef := by
    intro j hj
    have hq : j / sz < m - l := by rw [Nat.div_lt_iff_lt_mul hz]; exact hj
    have hmod := Nat.mod_lt j hz
    have hjj : j = j / sz * sz + j % sz := by rw [Nat.mul_comm]; exact (Nat.div_add_mod j sz).symm
    have hx1 : (xs ++ sp)[l + j / sz]? = some ((xs ++ sp)[l + j / sz]'(by simp; omega)) := List.getElem?_eq_getElem _
    have hx2 : (((xs ++ sp).take m).drop l)[j / sz]? = some ((xs ++ sp)[l + j / sz]'(by simp; omega)) := by
      rw [List.getElem?_drop, List.getElem?_take, if_pos (by omega)]; exact hx1
    have e1 := flat_at _ hall' (j / sz) (j % sz) _ hx2 hmod
    have e2 := flat_at _ hall (l + j / sz) (j % sz) _ hx1 hmod
    rw [← hjj] at e1
    rw [e1, ← e2]
    congr 1
    rw [Nat.add_mul]; omega
  have hbound : ∀ j, j < (m - l) * sz → l * sz + j < (flat (xs ++ sp)).length := by
    intro j hj
    rw [hfl, List.length_append]
    have : l * sz + (m - l) * sz = m * sz := by rw [← Nat.add_mul]; congr 1; omega
    have h2 : m * sz ≤ (xs.length + sp.length) * sz := Nat.mul_le_mul_right _ hm
    omega
  have key := Rep.lst (P := P) (M := M) e (((xs ++ sp).take h).drop l) (((xs ++ sp).take m).drop h) a' (m' - l) sz b (off + l * sz) (fun j => c (l * sz + j)) hsz hz
    (by rw [hcat]; exact hall') (by rw [hlen, hlen2]; omega)
    (by
      intro hne
      refine ha' ?_
      rw [hcat] at hne
      rcases Nat.lt_or_ge l m with h' | h'
      · exact h'
      · exact absurd (List.eq_nil_of_length_eq_zero (by rw [hl3]; omega)) hne)
    (by rw [hcat, hfl', hl3]; intro j hj; have := hc _ (hbound j hj); rw [← Nat.add_assoc] at this; exact this)
    (by rw [hcat, hfl', hl3]; intro j hj; rw [hget j hj]; exact hr _ (hbound j hj))
    (by rw [hcat, hfl', hl3]; intro j hj; exact h1 _ (hbound j hj))
  rw [hlen] at key
  exact key

end
end Go.Proofs.Ytnajopkaepjncaa.Am
