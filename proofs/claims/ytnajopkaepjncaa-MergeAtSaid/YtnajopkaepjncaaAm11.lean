/- The abstract machine is right, seventh part: reading cells, and making memory. -/
import Derived.Test.YtnajopkaepjncaaAm10
import Derived.Laws.CopyRow
import Derived.Lib.AtoiErrMem
namespace Go.Proofs.Ytnajopkaepjncaa.Am
set_option linter.unusedVariables false
set_option linter.unusedSimpArgs false
open Go.RowKit

section
variable {P : Program} {w : World}

def upd {α : Type} (g : Nat → α) (b : Nat) (v : α) : Nat → α := fun x => if x = b then v else g x
theorem upd_same {α : Type} (g : Nat → α) (b : Nat) (v : α) : upd g b v b = v := if_pos rfl
theorem upd_ne {α : Type} (g : Nat → α) {b x : Nat} (v : α) (h : x ≠ b) : upd g b v x = g x := if_neg h

/-! ### reading -/
theorem loadVar_sound {M : Mem} {t : TypeId} {b o n : Nat} {cs : List AV} {x : AV} (c : Nat → Value) (hs : sizeT P t = some n) (hl : cs.length = n) (h : ofCells P t cs = some x)
    (hc : ∀ j, j < n → w.cell? ⟨b, o + j, none⟩ = some (c j)) (hr : ∀ j, j < n → Rep P M (cs.getD j .undef) (c j)) (h1 : ∀ j, j < n → (c j).oneCell' = true) :
    ∃ u, (Instr.loadAt t (.pointer (some ⟨b, o, none⟩))).run P w = .ok u w ∧ Rep P M x u ∧ (cs.length = 1 → isAggT P t = some false → u = c 0) := by
  unfold ofCells at h
  have hcc : ∀ j, j < n → w.cell? ((⟨b, o, none⟩ : Addr).add j) = some (c j) := fun j hj => by rw [add_addr]; exact hc j hj
  split at h
  · rename_i hg
    injection h with h; subst h
    refine ⟨.agg ((List.range n).map c).toArray, ?_, .agg _ _ (by simp [hl]) ?_ ?_, ?_⟩
    · simp only [Instr.loadAt, Instr.sureAddr, loadVar, Sem.run_bind, Sem.run_pure, Result.andThen_ok, run_isAggT hg, if_true, run_sizeT hs, run_loadCells w _ n c hcc]
    · intro i hi; have := hr i (by omega); simpa [Array.getD_eq_getD_getElem?, hl ▸ hi] using this
    · intro i hi; have := h1 i (by omega); simpa [Array.getD_eq_getD_getElem?, hl ▸ hi] using this
    · intro _ hf; rw [hg] at hf; simp at hf
  · rename_i hg
    split at h
    · rename_i y
      split at h
      case isFalse => cases h
      injection h with h; subst h
      simp only [List.length_cons, List.length_nil] at hl
      subst hl
      have h0 := hc 0 (by omega)
      refine ⟨c 0, ?_, by simpa using hr 0 (by omega), fun _ _ => rfl⟩
      simp only [Nat.add_zero] at h0
      simp only [Instr.loadAt, Instr.sureAddr, loadVar, Sem.run_bind, Sem.run_pure, Result.andThen_ok, run_isAggT hg, Bool.false_eq_true, if_false, run_load, h0]
    · cases h
  · cases h

theorem pm_cell {G : Gh} {b o : Nat} {v : Value} (h : pmOf w G b o = some v) : w.cell? ⟨b, o, none⟩ = some v := by
  unfold pmOf at h; split at h; exact h; cases h

theorem blk_cell {M : Mem} {b : Nat} {k : Blk} (h : BlkAt P M w b k) : ∃ cs, w.heap[b]? = some (.cells cs k.e (0, 0)) ∧ (∀ j, j < k.cs.length → w.cell? ⟨b, j, none⟩ = some (cs.getD j undef)) ∧ k.cs.length ≤ cs.size ∧
    (∀ j, j < k.cs.length → Rep P M (k.cs.getD j .undef) (cs.getD j undef)) ∧ ∀ j, j < k.cs.length → (cs.getD j undef).oneCell' = true := by
  obtain ⟨cs, h1, h2, h3, h4, h5⟩ := h
  refine ⟨cs, h1, ?_, h2, h4, h5⟩
  intro j hj
  have : j < cs.size := by omega
  simp [World.cell?, h1, this]

/-- 'loadA' is what the model's load is, where the block (if it is one of the machine's) lies as it should. -/
theorem load_sound {G : Gh} {H : List (Option Blk)} {t : TypeId} {p x : AV} {v : Value} (h : loadA P H t p = some x) (rp : Rep P (G.mem w) p v)
    (hb : ∀ id off b k, p = .ptr id off → G.f id = some b → H[id]? = some (some k) → BlkAt P (G.mem w) w b k) :
    ∃ u, (Instr.loadAt t v).run P w = .ok u w ∧ Rep P (G.mem w) x u ∧ (∀ id off b, p = .ptr id off → G.f id = some b → sizeT P t = some 1 → isAggT P t = some false → w.cell? ⟨b, off, none⟩ = some u) := by
  unfold loadA at h
  split at h
  · rename_i n hs
    split at h
    · rename_i id off
      split at h
      · rename_i cs hcs
        unfold readCells at hcs
        split at hcs
        · rename_i k hk
          split at hcs
          · rename_i hle
            injection hcs with hcs; subst hcs
            cases rp with
            | ptr _ _ b hf =>
              obtain ⟨ds, hd, hcell, hsz, hrep, hone⟩ := blk_cell (hb id off b k rfl hf hk)
              have hl : ((k.cs.drop off).take n).length = n := by simp; omega
              obtain ⟨u, hu, ru, h1⟩ := loadVar_sound (w := w) (M := G.mem w) (b := b) (o := off) (fun j => ds.getD (off + j) undef) hs hl h (fun j hj => hcell _ (by omega))
                (fun j hj => by rw [getD_drop_take _ _ _ _ hj]; exact hrep _ (by omega)) (fun j hj => hone _ (by omega))
              refine ⟨u, hu, ru, ?_⟩
              intro id' off' b' e1 e2 e3 e4
              injection e1 with e1 e1'; subst e1; subst e1'
              change G.f id = some b at hf
              rw [hf] at e2; injection e2 with e2; subst e2
              rw [hs] at e3; injection e3 with e3
              rw [h1 (by omega) e4]
              exact hcell off (by omega)
          · cases hcs
        · cases hcs
      · cases h
    · rename_i cs off
      split at h
      · rename_i hle
        cases rp with
        | ept _ _ b o c hc hr h1 =>
          have hl : ((cs.drop off).take n).length = n := by simp; omega
          obtain ⟨u, hu, ru, _⟩ := loadVar_sound (w := w) (M := G.mem w) (b := b) (o := o + off) (fun j => c (off + j)) hs hl h
            (fun j hj => by have := pm_cell (hc (off + j) (by omega)); rw [← Nat.add_assoc] at this; exact this)
            (fun j hj => by rw [getD_drop_take _ _ _ _ hj]; exact hr _ (by omega)) (fun j hj => h1 _ (by omega))
          exact ⟨u, hu, ru, fun _ _ _ e => by cases e⟩
      · cases h
    · cases h
  · cases h

/-! ### a block of the machine's own -/
theorem alloc_heap_new (w : World) (o : Obj) : (w.alloc o).heap[w.heap.size]? = some o := heap_alloc_new w o

def Gh.map (G : Gh) (id b n : Nat) : Gh := { G with f := upd G.f id (some b), bs := upd G.bs b n }

theorem new_grow {G : Gh} (g : GOk G w) {id : Nat} (hid : G.f id = none) (cs : Array Value) (e : TypeId) : Grow G w (G.map id w.heap.size cs.size) (w.alloc (.cells cs e)) where
  below := (Below.refl _ _).alloc (Nat.le_refl _) _
  lim := fun _ _ => rfl
  owner := fun _ _ => rfl
  bs := fun b hb => upd_ne _ _ (by omega)
  f := fun i b h => by
    show upd G.f id _ i = _
    rw [upd_ne _ _ (by rintro rfl; rw [hid] at h; cases h)]; exact h
  fnew := fun i b h => by
    change upd G.f id (some w.heap.size) i = some b at h
    by_cases hi : i = id
    · subst hi; rw [upd_same] at h; injection h with h; exact .inr ⟨hid, by omega⟩
    · rw [upd_ne _ _ hi] at h; exact .inl h
theorem new_gok {G : Gh} (g : GOk G w) (id : Nat) (cs : Array Value) (e : TypeId) : GOk (G.map id w.heap.size cs.size) (w.alloc (.cells cs e)) where
  fin := fun i b h => by
    change upd G.f id (some w.heap.size) i = some b at h
    by_cases hi : i = id
    · subst hi; rw [upd_same] at h; injection h with h; subst h
      obtain ⟨h1, h2, h3⟩ := g.new w.heap.size (Nat.le_refl _)
      exact ⟨by simp, h1, h2⟩
    · rw [upd_ne _ _ hi] at h
      obtain ⟨h1, h2, h3⟩ := g.fin i b h
      exact ⟨by simp; omega, h2, h3⟩
  new := fun b hb => by
    simp only [World.size_alloc] at hb
    obtain ⟨h1, h2, h3⟩ := g.new b (by omega)
    exact ⟨h1, h2, by show upd _ _ _ b = 0; rw [upd_ne _ _ (by omega)]; exact h3⟩
theorem new_blk {G : Gh} (g : GOk G w) {id : Nat} (hid : G.f id = none) {xs : List AV} {cs : Array Value} {e : TypeId} (hc : CellsRep P (G.mem w) xs cs) :
    BlkAt P ((G.map id w.heap.size cs.size).mem (w.alloc (.cells cs e))) (w.alloc (.cells cs e)) w.heap.size ⟨e, xs⟩ :=
  ⟨cs, alloc_heap_new w _, by rw [hc.size]; exact Nat.le_refl _, (by show cs.size = upd G.bs w.heap.size cs.size w.heap.size; rw [upd_same]), fun j hj => ((new_grow g hid cs e).ext g).rep (hc.at_ j hj), hc.one⟩

/-- The machine's heap behind a new block of its own: H1 is the heap with the block at place id. -/
theorem new_heap {G : Gh} (g : GOk G w) {id : Nat} (hid : G.f id = none) {xs : List AV} {cs : Array Value} {e : TypeId} (hc : CellsRep P (G.mem w) xs cs) {H : List (Option Blk)} (r : HeapRel P G H w) (hH : H[id]? = some (some ⟨e, xs⟩)) :
    HeapRel P (G.map id w.heap.size cs.size) H (w.alloc (.cells cs e)) := by
  have split_ : ∀ i b, (G.map id w.heap.size cs.size).f i = some b → (i = id ∧ b = w.heap.size) ∨ (i ≠ id ∧ G.f i = some b) := by
    intro i b h
    change upd G.f id (some w.heap.size) i = some b at h
    by_cases hi : i = id
    · subst hi; rw [upd_same] at h; injection h with h; exact .inl ⟨rfl, h.symm⟩
    · rw [upd_ne _ _ hi] at h; exact .inr ⟨hi, h⟩
  refine ⟨?_, ?_, ?_⟩
  · intro i b h
    rcases split_ i b h with ⟨rfl, rfl⟩ | ⟨_, h⟩
    · exact ⟨_, hH⟩
    · exact r.dom i b h
  · intro i b k h hk
    rcases split_ i b h with ⟨rfl, rfl⟩ | ⟨_, h⟩
    · rw [hH] at hk; injection hk with hk; injection hk with hk; subst hk
      exact new_blk g hid hc
    · exact (r.blk i b k h hk).grow (new_grow g hid cs e) g (g.fin i b h).1
  · intro i j b k l h1 h2 hk hl n1 n2
    rcases split_ i b h1 with ⟨q1, q2⟩ | ⟨_, q1⟩ <;> rcases split_ j b h2 with ⟨q3, q4⟩ | ⟨_, q3⟩
    · rw [q1, q3]
    · have := (g.fin j _ q3).1; omega
    · have := (g.fin i _ q1).1; omega
    · exact r.inj i j b k l q1 q3 hk hl n1 n2

/-! ### a list in a new block -/
def Gh.list (G : Gh) (b n : Nat) (o : Option Loc) : Gh := { G with lim := upd G.lim b n, owner := upd G.owner b o }

theorem list_grow {G : Gh} (g : GOk G w) {w' : World} (hb : Below w.heap.size w w') (n : Nat) (o : Option Loc) : Grow G w (G.list w.heap.size n o) w' where
  below := hb
  lim := fun b hb => upd_ne _ _ (by omega)
  owner := fun b hb => upd_ne _ _ (by omega)
  bs := fun _ _ => rfl
  f := fun _ _ h => h
  fnew := fun _ _ h => .inl h
theorem list_gok {G : Gh} (g : GOk G w) {w' : World} (hb : w.heap.size < w'.heap.size) (n : Nat) (o : Option Loc) : GOk (G.list w.heap.size n o) w' where
  fin := fun i b h => by
    obtain ⟨h1, h2, h3⟩ := g.fin i b h
    exact ⟨by omega, by show upd _ _ _ b = 0; rw [upd_ne _ _ (by omega)]; exact h2, by show upd _ _ _ b = none; rw [upd_ne _ _ (by omega)]; exact h3⟩
  new := fun b hb' => by
    obtain ⟨h1, h2, h3⟩ := g.new b (by omega)
    exact ⟨by show upd _ _ _ b = 0; rw [upd_ne _ _ (by omega)]; exact h1, by show upd _ _ _ b = none; rw [upd_ne _ _ (by omega)]; exact h2, h3⟩

theorem list_rep {G : Gh} (g : GOk G w) {w' : World} (hb : Below w.heap.size w w') {cs : Array Value} {e0 : TypeId} {fr : Nat × Nat} (hn : w'.heap[w.heap.size]? = some (.cells cs e0 fr)) {e : TypeId} {xs : List AV} {sz cap : Nat} (o : Option Loc)
    (hsz : sizeT P e = some sz) (hz : 0 < sz) (hall : ∀ x ∈ xs, x.cells.length = sz) (hcap : xs.length ≤ cap)
    (hr : ∀ j, j < (flat xs).length → j < cs.size ∧ Rep P (G.mem w) ((flat xs).getD j .undef) (cs.getD j undef) ∧ (cs.getD j undef).oneCell' = true) :
    Rep P ((G.list w.heap.size (xs.length * sz) o).mem w') (.lst e xs []) (.slice (some ⟨w.heap.size, 0, none⟩) xs.length cap) := by
  have hfl := flat_len xs hall
  refine .lst e xs [] _ cap sz w.heap.size 0 (fun j => cs.getD j undef) hsz hz (by simpa using hall) (by simpa using hcap) (fun _ => rfl) ?_ ?_ ?_
  · intro j hj
    simp only [List.append_nil] at hj
    obtain ⟨h1, _, _⟩ := hr j hj
    show pmOf w' _ _ _ = _
    unfold pmOf
    have : (G.list w.heap.size (xs.length * sz) o).lim w.heap.size = xs.length * sz := upd_same _ _ _
    rw [this, if_pos (by omega)]
    simp [World.cell?, hn, h1]
  · intro j hj
    simp only [List.append_nil] at hj ⊢
    exact ((list_grow g hb _ o).ext g).rep (hr j hj).2.1
  · intro j hj
    simp only [List.append_nil] at hj
    exact (hr j hj).2.2

end
end Go.Proofs.Ytnajopkaepjncaa.Am
