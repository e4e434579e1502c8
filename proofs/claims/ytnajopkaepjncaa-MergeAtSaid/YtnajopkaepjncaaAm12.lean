/- The abstract machine is right, eighth part: lists that are made. -/
import Derived.Test.YtnajopkaepjncaaAm11
namespace Go.Proofs.Ytnajopkaepjncaa.Am
set_option linter.unusedVariables false
set_option linter.unusedSimpArgs false
open Go.RowKit

section
variable {P : Program} {w : World}

theorem ofCells_cells {t : TypeId} {cs : List AV} {x : AV} (h : ofCells P t cs = some x) : x.cells = cs := by
  unfold ofCells at h
  split at h
  · injection h with h; subst h; rfl
  · split at h
    · rename_i y
      split at h
      · rename_i hy; injection h with h; subst h; cases y <;> simp [AV.isOne] at hy <;> rfl
      · cases h
    · cases h
  · cases h

theorem chop_spec {e : TypeId} {sz : Nat} : ∀ (n : Nat) (cs xs : List AV), chop P e sz n cs = some xs → cs.length = n * sz → xs.length = n ∧ (∀ x ∈ xs, x.cells.length = sz) ∧ flat xs = cs := by
  intro n
  induction n with
  | zero => intro cs xs h hl; simp only [chop, Option.some.injEq] at h; subst h; refine ⟨rfl, by simp, ?_⟩; rw [Nat.zero_mul] at hl; rw [List.eq_nil_of_length_eq_zero hl]; rfl
  | succ n ih =>
    intro cs xs h hl
    simp only [chop] at h
    rw [Nat.add_mul, Nat.one_mul] at hl
    split at h
    · rename_i x r hx hr
      injection h with h; subst h
      obtain ⟨h1, h2, h3⟩ := ih (cs.drop sz) r hr (by simp; omega)
      have hc := ofCells_cells hx
      refine ⟨by simp [h1], ?_, ?_⟩
      · intro y hy
        rcases List.mem_cons.1 hy with rfl | hy
        · rw [hc]; simp; omega
        · exact h2 y hy
      · simp only [flat, List.flatMap_cons] at h3 ⊢
        rw [h3, hc, List.take_append_drop]
    · cases h

theorem own_new {G : Gh} (g : GOk G w) {w' : World} (hb : Below w.heap.size w w') {cs : Array Value} {e : TypeId} (hn : w'.heap[w.heap.size]? = some (.cells cs e (0, 0))) {xs : List AV} {sz cap : Nat} {l : Loc}
    (hsz : sizeT P e = some sz) (hz : 0 < sz) (hcap : xs.length ≤ cap) (hm : cap ≤ maxLen) (hcs : cs.size = cap * sz) :
    OwnAt P (G.list w.heap.size (xs.length * sz) (some l)) w' l (.lst e xs []) (.slice (some ⟨w.heap.size, 0, none⟩) xs.length cap) := by
  intro e' xs' hx
  injection hx with h1 h2 h3
  subst h1; subst h2
  refine ⟨sz, cs.toList.take (xs.length * sz), hsz, hz, ⟨?_, .inr ⟨w.heap.size, cap, cs, rfl, Nat.zero_le _, hn, hcap, hm, hcs, rfl⟩⟩, ?_⟩
  · have hlt : cs.toList.length = cap * sz := by rw [Array.length_toList, hcs]
    have := Nat.mul_le_mul_right sz hcap
    rw [List.length_take, hlt]
    exact Nat.min_eq_left this
  · intro b hbk
    have : w.heap.size = b := by simpa [Value.ownBlock] using hbk
    subst this
    exact ⟨upd_same _ _ _, upd_same _ _ _⟩

theorem getD_list_arr (cs : Array Value) (j : Nat) : cs.toList.getD j undef = cs.getD j undef := by simp [List.getD_eq_getElem?_getD, Array.getD_eq_getD_getElem?]

theorem rep_getD {z : List AV} {sz : Nat} (hz : z.length = sz) (hp : 0 < sz) : ∀ (n j : Nat), j < n * sz → (rep n z).getD j .undef = z.getD (j % sz) .undef := by
  intro n
  induction n with
  | zero => intro j hj; omega
  | succ n ih =>
    intro j hj
    rw [Nat.add_mul, Nat.one_mul] at hj
    simp only [rep, List.replicate_succ, List.flatten_cons, List.getD_eq_getElem?_getD]
    by_cases h : j < sz
    · rw [List.getElem?_append_left (by omega), Nat.mod_eq_of_lt h]
    · rw [List.getElem?_append_right (by omega), hz]
      have := ih (j - sz) (by omega)
      simp only [rep, List.getD_eq_getElem?_getD] at this
      rw [this, Nat.mod_eq_sub_mod (by omega : j ≥ sz)]
theorem rep_length {z : List AV} {sz : Nat} (hz : z.length = sz) (n : Nat) : (rep n z).length = n * sz := by
  simp [rep, hz]

theorem made_getD {z : Array Value} {sz : Nat} (hz : z.size = sz) (hp : 0 < sz) (n j : Nat) (hj : j < n) : (madeCells z n).getD j undef = z.getD (j % sz) undef := by
  have : j % sz < z.size := by rw [hz]; exact Nat.mod_lt _ hp
  have e1 : (madeCells z n).getD j undef = z[j % sz]! := by
    simp [madeCells, Array.getD_eq_getD_getElem?, hj, hz]
  rw [e1, getElem!_pos z (j % sz) this, Array.getD_eq_getD_getElem?, Array.getElem?_eq_getElem this]
  rfl

theorem made_rep {M : Mem} {z : List AV} {zv : Array Value} (h : CellsRep P M z zv) {sz : Nat} (hz : z.length = sz) (hp : 0 < sz) (n : Nat) : CellsRep P M (rep n z) (madeCells zv (n * sz)) := by
  refine ⟨by rw [size_madeCells, rep_length hz], ?_, ?_⟩ <;> intro i hi <;> rw [rep_length hz] at hi
  · rw [rep_getD hz hp n i hi, made_getD (by rw [h.size, hz]) hp _ _ hi]
    exact h.at_ _ (by rw [hz]; exact Nat.mod_lt _ hp)
  · rw [made_getD (by rw [h.size, hz]) hp _ _ hi]
    exact h.one _ (by rw [hz]; exact Nat.mod_lt _ hp)

/-- What making a list leaves. -/
structure Made (P : Program) (G : Gh) (w : World) (x : AV) (v : Value) (w' : World) (G' : Gh) (l : Loc) : Prop where
  grow : Grow G w G' w'
  ok : GOk G' w'
  rep : Rep P (G'.mem w') x v
  f : G'.f = G.f
  own : OwnAt P G' w' l x v

theorem buildSlice_sound {G : Gh} (g : GOk G w) {t e : TypeId} {len sz : Nat} {ps : List (Nat × AV)} {qs : Array (Nat × Value)} {z cs xs : List AV} {l : Loc} (hu : P.underlying t = some (.slice e)) (hs : sizeT P e = some sz) (hz : zeroT P e = some z)
    (h1 : len * sz ≤ 16777216) (hp : 0 < sz) (hzl : z.length = sz) (hf : fillA (fun i => some (i * sz, sz)) (rep len z) ps = some cs) (hx : chop P e sz len cs = some xs) (hq : PartsRep P (G.mem w) ps qs.toList) :
    ∃ v w' G', (Instr.buildSlice t len qs).run P w = .ok v w' ∧ Made P G w (.lst e xs []) v w' G' l := by
  obtain ⟨zv, hzr, hzc⟩ := zero_sound (M := G.mem w) (w := w) hz
  have hmr := made_rep hzc hzl hp len
  obtain ⟨us, hus, hcu⟩ := fill_sound ps qs.toList _ cs _ hf hq hmr
  have hcl : cs.length = len * sz := by
    have h2 : us.size = (madeCells zv.cells (len * sz)).size := by
      have : ∀ (qs : List (Nat × Value)) (a b : Array Value), Instr.fill (fun i => some (i * sz, sz)) a qs = some b → b.size = a.size := by
        intro qs
        induction qs with
        | nil => intro a b h; simp only [Instr.fill, Option.some.injEq] at h; rw [h]
        | cons q r ih =>
          obtain ⟨i, v⟩ := q
          intro a b h
          simp only [Instr.fill] at h
          split at h
          · cases h
          · rw [ih _ _ h]
            have : ∀ (l : List (Value × Nat)) (a : Array Value), (l.foldl (fun cs (x : Value × Nat) => cs.setIfInBounds (i * sz + x.2) x.1) a).size = a.size := by
              intro l
              induction l with
              | nil => intro a; rfl
              | cons y l ih => intro a; rw [List.foldl_cons, ih, Array.size_setIfInBounds]
            rw [← Array.foldl_toList]
            exact this _ _
      exact this _ _ _ hus
    rw [← hcu.size, h2, size_madeCells]
  obtain ⟨q1, q2, q3⟩ := chop_spec len cs xs hx hcl
  subst q1
  have hbel : Below w.heap.size w (w.alloc (.cells us e)) := (Below.refl _ _).alloc (Nat.le_refl _) _
  refine ⟨.slice (some ⟨w.heap.size, 0, none⟩) xs.length xs.length, w.alloc (.cells us e), G.list w.heap.size (xs.length * sz) (some l), ?_, ?_⟩
  · have hng : ¬ xs.length * sz > 2 ^ 24 := by omega
    by_cases h0 : xs.length * sz = 0
    · have hmade : madeCells zv.cells (xs.length * sz) = (Array.range (xs.length * sz)).map fun x => (#[] : Array Value)[x % (#[] : Array Value).size]! := by
        rw [h0]; simp [madeCells, Array.range_zero']
      rw [hmade] at hus
      simp only [Instr.buildSlice, Sem.run_bind, run_underlying' hu, Result.andThen_ok, run_sizeT hs, if_neg hng, if_pos h0, Sem.run_pure, hus, newRow, run_newObj]
      rfl
    · simp only [madeCells] at hus
      simp only [Instr.buildSlice, Sem.run_bind, run_underlying' hu, Result.andThen_ok, run_sizeT hs, if_neg hng, if_neg h0, hzr, Sem.run_pure, hus, newRow, run_newObj]
      rfl
  · refine ⟨list_grow g hbel _ _, list_gok g (by simp) _ _, ?_, rfl, ?_⟩
    · refine list_rep g hbel (alloc_heap_new w _) _ hs hp q2 (Nat.le_refl _) ?_
      intro j hj
      rw [q3] at hj ⊢
      exact ⟨by rw [hcu.size]; exact hj, hcu.at_ j hj, hcu.one j hj⟩
    · refine own_new g hbel (alloc_heap_new w _) hs hp (Nat.le_refl _) ?_ (by rw [hcu.size, hcl])
      have : xs.length ≤ xs.length * sz := Nat.le_mul_of_pos_right _ hp
      unfold maxLen; omega

theorem makeSlice_sound {G : Gh} (g : GOk G w) {t e : TypeId} {n c : Nat} {k1 k2 : IntKind} {i : TypeInfo} {z : List AV} {x : AV} {l : Loc} (hu : P.underlying t = some (.slice e)) (hi : P.info? e = some i) (hz : zeroT P e = some z)
    (hnc : n ≤ c) (hby : c * i.bytes ≤ 140737488355328) (hc : c ≤ 140737488355328) (hp : 0 < i.size) (hzl : z.length = i.size) (hx : ofCells P e z = some x) :
    ∃ v w' G', (Instr.makeSlice t (.int k1 n) (.int k2 c)).run P w = .ok v w' ∧ Made P G w (.lst e (List.replicate n x) []) v w' G' l := by
  have hs : sizeT P e = some i.size := by simp [sizeT, hi]
  obtain ⟨zv, hzr, hzc⟩ := zero_sound (M := G.mem w) (w := w) hz
  have hzz : i.zero = some zv := by
    unfold zeroT at hz
    simp only [zeroValue, Sem.run_bind, run_typeInfo' hi, Result.andThen_ok] at hzr
    cases hiz : i.zero with
    | none => rw [hiz] at hzr; simp at hzr
    | some q => rw [hiz] at hzr; simp at hzr; rw [hzr]
  have hrun := run_make (P := P) w t e i zv hu hi hzz k1 k2 n c (by omega) (by omega) (by
    have : ((i.bytes * c : Nat) : Int) ≤ 281474976710656 := by rw [Nat.mul_comm]; omega
    rwa [Int.natCast_mul] at this) (by omega)
  simp only [Int.toNat_natCast] at hrun
  have hmr := made_rep hzc hzl hp c
  have hbel : Below w.heap.size w (w.alloc (.cells (madeCells zv.cells (c * i.size)) e)) := (Below.refl _ _).alloc (Nat.le_refl _) _
  have hxc := ofCells_cells hx
  have hall : ∀ y ∈ List.replicate n x, y.cells.length = i.size := by intro y hy; rw [List.eq_of_mem_replicate hy, hxc, hzl]
  have hfl := flat_len _ hall
  rw [List.length_replicate] at hfl
  have hflat : flat (List.replicate n x) = rep n z := by
    simp only [flat, rep, List.flatMap_def, List.map_replicate, hxc]
  have hle : n * i.size ≤ c * i.size := Nat.mul_le_mul_right _ hnc
  have hrr : ∀ j, j < n * i.size → (rep n z).getD j .undef = (rep c z).getD j .undef := by
    intro j hj
    rw [rep_getD hzl hp n j hj, rep_getD hzl hp c j (by omega)]
  have hG : (G.list w.heap.size ((List.replicate n x).length * i.size) (some l)) = G.list w.heap.size (n * i.size) (some l) := by rw [List.length_replicate]
  refine ⟨_, _, G.list w.heap.size (n * i.size) (some l), hrun, ?_⟩
  refine ⟨list_grow g hbel _ _, list_gok g (by simp) _ _, ?_, rfl, ?_⟩
  · have := list_rep g hbel (alloc_heap_new w _) (some l) hs hp hall (cap := c) (by rw [List.length_replicate]; exact hnc) (by
      intro j hj
      rw [hflat] at hj ⊢
      rw [rep_length hzl] at hj
      refine ⟨by rw [size_madeCells]; omega, ?_, hmr.one j (by rw [rep_length hzl]; omega)⟩
      rw [hrr j hj]
      exact hmr.at_ j (by rw [rep_length hzl]; omega))
    rw [hG, List.length_replicate] at this
    exact this
  · have := own_new (P := P) (l := l) g hbel (alloc_heap_new w _) (xs := List.replicate n x) hs hp (cap := c) (by rw [List.length_replicate]; exact hnc) (by unfold maxLen; omega) (by rw [size_madeCells])
    rw [hG, List.length_replicate] at this
    exact this

end
end Go.Proofs.Ytnajopkaepjncaa.Am
