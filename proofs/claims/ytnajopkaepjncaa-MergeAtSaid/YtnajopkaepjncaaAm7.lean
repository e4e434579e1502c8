/- The abstract machine is right, fourth part: one theorem for all operations that neither read nor write cells. -/
import Derived.Test.YtnajopkaepjncaaAm6
namespace Go.Proofs.Ytnajopkaepjncaa.Am
set_option linter.unusedVariables false
set_option linter.unusedSimpArgs false
open Go.RowKit

section
variable {P : Program} {M : Mem} {w : World}

/-! ### building -/
theorem set_range (off : Nat) : ∀ (l : List Value) (s : Nat) (cs : Array Value), off + s + l.length ≤ cs.size →
    ((l.zipIdx s).foldl (fun cs (c, j) => cs.setIfInBounds (off + j) c) cs).size = cs.size ∧
    ∀ k, ((l.zipIdx s).foldl (fun cs (c, j) => cs.setIfInBounds (off + j) c) cs).getD k undef = if off + s ≤ k ∧ k < off + s + l.length then l.getD (k - (off + s)) undef else cs.getD k undef := by
  intro l
  induction l with
  | nil => intro s cs h; refine ⟨rfl, fun k => ?_⟩; rw [if_neg (by simp)]; rfl
  | cons v r ih =>
    intro s cs h
    simp only [List.length_cons] at h
    simp only [List.zipIdx_cons, List.foldl_cons]
    obtain ⟨h1, h2⟩ := ih (s + 1) (cs.setIfInBounds (off + s) v) (by rw [Array.size_setIfInBounds]; omega)
    refine ⟨by rw [h1, Array.size_setIfInBounds], fun k => ?_⟩
    rw [h2 k]
    by_cases hk : k = off + s
    · subst hk
      rw [if_neg (by omega), if_pos (by simp)]
      simp only [Array.getD_eq_getD_getElem?, Nat.sub_self, List.getD_cons_zero]
      rw [Array.getElem?_setIfInBounds_self_of_lt (by omega)]
      rfl
    · by_cases hin : off + (s + 1) ≤ k ∧ k < off + (s + 1) + r.length
      · rw [if_pos hin, if_pos (by simp only [List.length_cons]; omega)]
        have : k - (off + s) = (k - (off + (s + 1))) + 1 := by omega
        rw [this, List.getD_cons_succ]
      · rw [if_neg hin, if_neg (by simp only [List.length_cons]; omega)]
        simp only [Array.getD_eq_getD_getElem?]
        rw [Array.getElem?_setIfInBounds_ne (by omega)]

theorem getD_splice (cs vs : List AV) (off k : Nat) (h : off + vs.length ≤ cs.length) :
    (splice cs off vs).getD k .undef = if off ≤ k ∧ k < off + vs.length then vs.getD (k - off) .undef else cs.getD k .undef := by
  unfold splice
  simp only [List.getD_eq_getElem?_getD]
  have ht : (cs.take off).length = off := by simp; omega
  by_cases h1 : k < off
  · rw [List.append_assoc, List.getElem?_append_left (by omega), List.getElem?_take, if_pos h1, if_neg (by omega)]
  · by_cases h2 : k < off + vs.length
    · rw [List.append_assoc, List.getElem?_append_right (by omega), List.getElem?_append_left (by omega), ht, if_pos (by omega)]
    · rw [List.getElem?_append_right (by simp; omega), if_neg (by omega)]
      simp only [List.length_append, ht, List.getElem?_drop]
      congr 2
      omega
theorem length_splice (cs vs : List AV) (off : Nat) (h : off + vs.length ≤ cs.length) : (splice cs off vs).length = cs.length := by
  unfold splice; simp; omega

theorem CellsRep.splice {cs : List AV} {vs : Array Value} (h : CellsRep P M cs vs) {ds : List AV} {us : Array Value} (k : CellsRep P M ds us) (off : Nat) (hl : off + ds.length ≤ cs.length) :
    CellsRep P M (Am.splice cs off ds) (us.zipIdx.foldl (fun cs (c, j) => cs.setIfInBounds (off + j) c) vs) := by
  have hus : us.toList.length = ds.length := by rw [Array.length_toList, k.size]
  have hz : us.zipIdx.foldl (fun cs (c, j) => cs.setIfInBounds (off + j) c) vs = (us.toList.zipIdx 0).foldl (fun cs (c, j) => cs.setIfInBounds (off + j) c) vs := by
    rw [← Array.foldl_toList, Array.toList_zipIdx]
  obtain ⟨h1, h2⟩ := set_range off us.toList 0 vs (by rw [hus, h.size]; omega)
  rw [hz]
  have hg : ∀ j, us.toList.getD j undef = us.getD j undef := by intro j; simp [List.getD_eq_getElem?_getD, Array.getD_eq_getD_getElem?]
  refine ⟨by rw [h1, h.size, length_splice _ _ _ hl], ?_, ?_⟩ <;> intro i hi <;> rw [length_splice _ _ _ hl] at hi <;> rw [h2 i, hus, Nat.add_zero]
  · rw [getD_splice _ _ _ _ hl]
    by_cases hin : off ≤ i ∧ i < off + ds.length
    · rw [if_pos hin, if_pos hin, hg]; exact k.at_ _ (by omega)
    · rw [if_neg hin, if_neg hin]; exact h.at_ _ hi
  · by_cases hin : off ≤ i ∧ i < off + ds.length
    · rw [if_pos hin, hg]; exact k.one _ (by omega)
    · rw [if_neg hin]; exact h.one _ hi

def PartsRep (P : Program) (M : Mem) : List (Nat × AV) → List (Nat × Value) → Prop
  | [], [] => True
  | (i, x) :: r, (j, v) :: s => i = j ∧ Rep P M x v ∧ PartsRep P M r s
  | _, _ => False

theorem fill_sound {place : Nat → Option (Nat × Nat)} : ∀ (ps : List (Nat × AV)) (qs : List (Nat × Value)) (cs ds : List AV) (vs : Array Value), fillA place cs ps = some ds → PartsRep P M ps qs → CellsRep P M cs vs →
    ∃ us, Instr.fill place vs qs = some us ∧ CellsRep P M ds us := by
  intro ps
  induction ps with
  | nil =>
    intro qs cs ds vs h hp hc
    cases qs with
    | nil => simp only [fillA, Option.some.injEq] at h; subst h; exact ⟨vs, rfl, hc⟩
    | cons _ _ => exact hp.elim
  | cons p r ih =>
    obtain ⟨i, x⟩ := p
    intro qs cs ds vs h hp hc
    cases qs with
    | nil => exact hp.elim
    | cons q s =>
      obtain ⟨j, v⟩ := q
      obtain ⟨rfl, rx, hp'⟩ := hp
      simp only [fillA] at h
      split at h
      · rename_i off size hpl
        split at h
        · rename_i hcond
          obtain ⟨c1, c2, c3⟩ := hcond
          have hx := cells_of rx (by omega)
          obtain ⟨us, hu, hcu⟩ := ih s _ ds (v.cells.zipIdx.foldl (fun cs (c, j) => cs.setIfInBounds (off + j) c) vs) h hp' (hc.splice hx off c3)
          refine ⟨us, ?_, hcu⟩
          simp only [Instr.fill, hpl]
          rw [if_neg, hu]
          have e1 := hx.size
          have e2 := hc.size
          simp only [Bool.or_eq_true, decide_eq_true_eq, not_or]
          omega
        · cases h
      · cases h

theorem cells_const : ∀ (vs : List Value) (cs : List AV), vs.mapM constAV = some cs → (∀ v ∈ vs, v.oneCell' = true) → CellsRep P M cs vs.toArray := by
  intro vs
  induction vs with
  | nil => intro cs h _; simp at h; subst h; exact ⟨rfl, fun i hi => by simp at hi, fun i hi => by simp at hi⟩
  | cons v r ih =>
    intro cs h h1
    rw [List.mapM_cons] at h
    cases hv : constAV v with
    | none => simp [hv] at h
    | some x =>
      cases hr : r.mapM constAV with
      | none => simp [hv, hr] at h
      | some xs =>
        simp [hv, hr] at h; subst h
        obtain ⟨a1, a2, a3⟩ := ih xs hr (fun v hv => h1 v (by simp [hv]))
        refine ⟨by simpa using a1, ?_, ?_⟩ <;> intro i hi <;> cases i with
        | zero => first | exact Rep.const hv | exact h1 v (by simp)
        | succ i =>
          simp only [List.length_cons] at hi
          first
            | (have := a2 i (by omega); simpa [Array.getD_eq_getD_getElem?, List.getD_eq_getElem?_getD] using this)
            | (have := a3 i (by omega); simpa [Array.getD_eq_getD_getElem?, List.getD_eq_getElem?_getD] using this)
theorem const_one {v : Value} {x : AV} (h : constAV v = some x) : v.oneCell' = true := by
  cases v <;> first | rfl | (simp [constAV] at h)
theorem mapM_const_one : ∀ (vs : List Value) (cs : List AV), vs.mapM constAV = some cs → ∀ v ∈ vs, v.oneCell' = true := by
  intro vs
  induction vs with
  | nil => intro cs _ v hv; simp at hv
  | cons u r ih =>
    intro cs h v hv
    rw [List.mapM_cons] at h
    cases hu : constAV u with
    | none => simp [hu] at h
    | some x =>
      cases hr : r.mapM constAV with
      | none => simp [hu, hr] at h
      | some xs =>
        rcases List.mem_cons.1 hv with rfl | hv
        · exact const_one hu
        · exact ih xs hr v hv
theorem zero_sound {t : TypeId} {z : List AV} (h : zeroT P t = some z) : ∃ v, (zeroValue t).run P w = .ok v w ∧ CellsRep P M z v.cells := by
  unfold zeroT at h
  split at h
  · rename_i i hi
    split at h
    · rename_i v hz
      refine ⟨v, ?_, ?_⟩
      · simp only [zeroValue, Sem.run_bind, run_typeInfo' hi, Result.andThen_ok, hz, Sem.run_pure]
      · have := cells_const (P := P) (M := M) v.cells.toList z h (mapM_const_one _ _ h)
        simpa using this
    · cases h
  · cases h

def placeSem (f : Field) : Sem (Nat × Nat) := do pure (f.offset, ← sizeOf f.type)
theorem places_sound (fields : List Field) (h : ∀ f ∈ fields, (sizeT P f.type).isSome = true) :
    ∃ ps : List (Nat × Nat), (fields.mapM placeSem).run P w = .ok ps w ∧ ∀ i : Nat, ps[i]? = (fields[i]?).bind fun (f : Field) => (sizeT P f.type).map fun n => (f.offset, n) := by
  induction fields with
  | nil => exact ⟨[], rfl, fun i => by simp⟩
  | cons f r ih =>
    obtain ⟨ps, h1, h2⟩ := ih (fun g hg => h g (by simp [hg]))
    obtain ⟨n, hn⟩ := Option.isSome_iff_exists.1 (h f (by simp))
    refine ⟨(f.offset, n) :: ps, ?_, ?_⟩
    · simp only [List.mapM_cons, Sem.run_bind, placeSem, run_sizeT hn, Result.andThen_ok, Sem.run_pure, h1]
    · intro i
      cases i with
      | zero => simp [hn]
      | succ i => simp [h2 i]

theorem build_sound {t : TypeId} {ps : List (Nat × AV)} {qs : Array (Nat × Value)} {r : AV} (h : buildA P t ps = some r) (hp : PartsRep P M ps qs.toList) : ∃ v, (Instr.build t qs).run P w = .ok v w ∧ Rep P M r v := by
  unfold buildA at h
  split at h
  · rename_i z fields hz hu
    split at h
    · rename_i hall
      cases hf : fillA (places P fields) z ps with
      | none => simp [hf] at h
      | some cs =>
        simp only [hf, Option.map_some, Option.some.injEq] at h; subst h
        obtain ⟨zv, hzr, hzc⟩ := zero_sound (M := M) (w := w) hz
        have hall' : ∀ f ∈ fields.toList, (sizeT P f.type).isSome = true := by
          intro f hf'
          have := (Array.all_eq_true_iff_forall_mem.1 hall) f (Array.mem_toList_iff.1 hf')
          exact this
        obtain ⟨pl, hpl, hpi⟩ := places_sound (w := w) fields.toList hall'
        obtain ⟨us, hus, hcu⟩ := fill_sound (place := places P fields) ps qs.toList z cs zv.cells hf hp hzc
        have hpp : (fun i => (pl.toArray)[i]?) = places P fields := by
          funext i
          rw [List.getElem?_toArray, hpi i]
          unfold places
          rw [Array.getElem?_toList]
          cases fields[i]? <;> rfl
        refine ⟨.agg us, ?_, .agg _ _ hcu.size hcu.at_ hcu.one⟩
        simp only [Instr.build, Sem.run_bind, hzr, Result.andThen_ok, run_underlying' hu]
        have hm : (fields.mapM placeSem).run P w = .ok pl.toArray w := by
          rw [Array.mapM_eq_mapM_toList]
          simp only [Sem.run_map, hpl, Result.andThen_ok]
        have hm' : (fields.mapM (fun (f : Field) => (do let n ← sizeOf f.type; pure (f.offset, n) : Sem (Nat × Nat)))).run P w = .ok pl.toArray w := hm
        simp only [hm', Result.andThen_ok, hpp, hus, Sem.run_pure]
    · cases h
  · rename_i z n elem hz hu
    split at h
    · rename_i size hs
      cases hf : fillA (fun i => some (i * size, size)) z ps with
      | none => simp [hf] at h
      | some cs =>
        simp only [hf, Option.map_some, Option.some.injEq] at h; subst h
        obtain ⟨zv, hzr, hzc⟩ := zero_sound (M := M) (w := w) hz
        obtain ⟨us, hus, hcu⟩ := fill_sound ps qs.toList z cs zv.cells hf hp hzc
        refine ⟨.agg us, ?_, .agg _ _ hcu.size hcu.at_ hcu.one⟩
        simp only [Instr.build, Sem.run_bind, hzr, Result.andThen_ok, run_underlying' hu, run_sizeT hs, hus, Sem.run_pure]
    · cases h
  · cases h

end
end Go.Proofs.Ytnajopkaepjncaa.Am
