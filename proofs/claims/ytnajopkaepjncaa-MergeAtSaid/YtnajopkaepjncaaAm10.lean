/- What the abstract machine's memory has to do with Go's: blocks, lists that may be written on, and what a step leaves as it was. -/
import Derived.Test.YtnajopkaepjncaaAm9
namespace Go.Proofs.Ytnajopkaepjncaa.Am
set_option linter.unusedVariables false
set_option linter.unusedSimpArgs false
open Go.RowKit

/-- What is held of memory beside the values: up to where a block is written no more, where the machine's blocks lie, how large they are, whose end a block's is. -/
structure Gh where
  lim : Nat → Nat
  f : Nat → Option Nat
  bs : Nat → Nat
  owner : Nat → Option Loc

def pmOf (w : World) (G : Gh) (b o : Nat) : Option Value := if o < G.lim b then w.cell? ⟨b, o, none⟩ else none
def Gh.mem (G : Gh) (w : World) : Mem := ⟨pmOf w G, G.f, G.bs⟩

structure GOk (G : Gh) (w : World) : Prop where
  fin : ∀ id b, G.f id = some b → b < w.heap.size ∧ G.lim b = 0 ∧ G.owner b = none
  new : ∀ b, w.heap.size ≤ b → G.lim b = 0 ∧ G.owner b = none ∧ G.bs b = 0

/-- A block of the machine's, as it lies in memory. -/
def BlkAt (P : Program) (M : Mem) (w : World) (b : Nat) (k : Blk) : Prop :=
  ∃ cs, w.heap[b]? = some (.cells cs k.e (0, 0)) ∧ k.cs.length ≤ cs.size ∧ cs.size = M.bs b ∧ (∀ j, j < k.cs.length → Rep P M (k.cs.getD j .undef) (cs.getD j undef)) ∧ ∀ j, j < k.cs.length → (cs.getD j undef).oneCell' = true

/-- There is a block at this number. -/
def Live (H : List (Option Blk)) (id : Nat) : Prop := ∃ k, H[id]? = some (some k)
theorem Live.lt {H : List (Option Blk)} {id : Nat} (h : Live H id) : id < H.length := by
  obtain ⟨k, hk⟩ := h; exact (List.getElem?_eq_some_iff.1 hk).1
theorem Live.append {H : List (Option Blk)} {id : Nat} (h : Live H id) (E : List (Option Blk)) : Live (H ++ E) id := by
  obtain ⟨k, hk⟩ := h
  exact ⟨k, by rw [List.getElem?_append_left (Live.lt ⟨k, hk⟩)]; exact hk⟩
theorem Live.set {H : List (Option Blk)} {id : Nat} (h : Live H id) (j : Nat) (k : Blk) : Live (H.set j (some k)) id := by
  by_cases hj : j = id
  · subst hj; exact ⟨k, by rw [List.getElem?_set_self h.lt]⟩
  · obtain ⟨q, hq⟩ := h; exact ⟨q, by rw [List.getElem?_set_ne hj]; exact hq⟩

structure HeapRel (P : Program) (G : Gh) (H : List (Option Blk)) (w : World) : Prop where
  dom : ∀ id b, G.f id = some b → Live H id
  blk : ∀ id b k, G.f id = some b → H[id]? = some (some k) → BlkAt P (G.mem w) w b k
  inj : ∀ i j b k l, G.f i = some b → G.f j = some b → H[i]? = some (some k) → H[j]? = some (some l) → k.cs ≠ [] → l.cs ≠ [] → i = j

/-- A list whose end is one's own. -/
def OwnAt (P : Program) (G : Gh) (w : World) (l : Loc) (x : AV) (v : Value) : Prop :=
  ∀ e xs, x = .lst e xs [] → ∃ sz cells, sizeT P e = some sz ∧ 0 < sz ∧ w.ownsRow 0 e sz v xs.length cells ∧ ∀ g, v.ownBlock = some g → G.owner g = some l ∧ G.lim g = xs.length * sz

structure OwnRel (P : Program) (G : Gh) (st : St) (t : Nat → Value) (w : World) : Prop where
  slot : ∀ s, owns st.own (.slot s) = true → OwnAt P G w (.slot s) (look st.env s) (t s)
  cell : ∀ id off b k cs, owns st.own (.cell id off) = true → G.f id = some b → st.H[id]? = some (some k) → w.heap[b]? = some (.cells cs k.e (0, 0)) → OwnAt P G w (.cell id off) (k.cs.getD off .undef) (cs.getD off undef)

/-- The blocks that may be written. -/
def Foot (G : Gh) (b : Nat) : Prop := (∃ id, G.f id = some b) ∨ (G.owner b).isSome = true

structure Ext (G : Gh) (w : World) (G' : Gh) (w' : World) : Prop where
  os : w'.os = w.os
  tape : w'.tape = w.tape
  output : w'.output = w.output
  size : w.heap.size ≤ w'.heap.size
  prot : ∀ b o v, pmOf w G b o = some v → pmOf w' G' b o = some v
  f : ∀ id b, G.f id = some b → G'.f id = some b
  bs : ∀ b, G.bs b ≤ G'.bs b
  foreign : ∀ b, b < w.heap.size → ¬ Foot G b → w'.heap[b]? = w.heap[b]? ∧ G'.lim b = G.lim b ∧ ¬ Foot G' b

theorem Ext.refl (G : Gh) (w : World) : Ext G w G w := ⟨rfl, rfl, rfl, Nat.le_refl _, fun _ _ _ h => h, fun _ _ h => h, fun _ => Nat.le_refl _, fun _ _ h => ⟨rfl, rfl, h⟩⟩
theorem Ext.trans {G G' G'' : Gh} {w w' w'' : World} (h : Ext G w G' w') (k : Ext G' w' G'' w'') : Ext G w G'' w'' :=
  ⟨k.os.trans h.os, k.tape.trans h.tape, k.output.trans h.output, Nat.le_trans h.size k.size, fun b o v e => k.prot b o v (h.prot b o v e), fun i b e => k.f i b (h.f i b e), fun b => Nat.le_trans (h.bs b) (k.bs b),
    fun b hb hf => by
      obtain ⟨a1, a2, a3⟩ := h.foreign b hb hf
      obtain ⟨b1, b2, b3⟩ := k.foreign b (Nat.lt_of_lt_of_le hb h.size) a3
      exact ⟨b1.trans a1, b2.trans a2, b3⟩⟩
theorem Ext.mem {G G' : Gh} {w w' : World} (h : Ext G w G' w') : (G.mem w).le (G'.mem w') := ⟨h.prot, h.f, h.bs⟩
theorem Ext.rep {P : Program} {G G' : Gh} {w w' : World} (h : Ext G w G' w') {x : AV} {v : Value} (r : Rep P (G.mem w) x v) : Rep P (G'.mem w') x v := r.mono h.mem
theorem Ext.below {G G' : Gh} {w w' : World} (h : Ext G w G' w') {B : Nat} (hB : B ≤ w.heap.size) (hf : ∀ b, b < B → ¬ Foot G b) : Below B w w' :=
  ⟨h.os, h.tape, h.output, h.size, fun k hk => (h.foreign k (by omega) (hf k hk)).1⟩

/-- A step that only makes memory. -/
structure Grow (G : Gh) (w : World) (G' : Gh) (w' : World) : Prop where
  below : Below w.heap.size w w'
  lim : ∀ b, b < w.heap.size → G'.lim b = G.lim b
  owner : ∀ b, b < w.heap.size → G'.owner b = G.owner b
  bs : ∀ b, b < w.heap.size → G'.bs b = G.bs b
  f : ∀ id b, G.f id = some b → G'.f id = some b
  fnew : ∀ id b, G'.f id = some b → G.f id = some b ∨ (G.f id = none ∧ w.heap.size ≤ b)

theorem cell_below {B : Nat} {w w' : World} (h : Below B w w') {b o : Nat} (hb : b < B) : w'.cell? ⟨b, o, none⟩ = w.cell? ⟨b, o, none⟩ := by
  unfold World.cell?; rw [h.block b hb]

theorem Grow.ext {G G' : Gh} {w w' : World} (h : Grow G w G' w') (g : GOk G w) : Ext G w G' w' where
  os := h.below.os
  tape := h.below.tape
  output := h.below.output
  size := h.below.size
  prot := by
    intro b o v e
    have hb : b < w.heap.size := by
      rcases Nat.lt_or_ge b w.heap.size with hb | hb
      · exact hb
      · have := (g.new b hb).1; simp [pmOf, this] at e
    unfold pmOf at *
    rw [h.lim b hb, cell_below h.below hb]; exact e
  f := h.f
  bs := by
    intro b
    rcases Nat.lt_or_ge b w.heap.size with hb | hb
    · rw [h.bs b hb]; exact Nat.le_refl _
    · rw [(g.new b hb).2.2]; exact Nat.zero_le _
  foreign := by
    intro b hb hf
    refine ⟨h.below.block b hb, h.lim b hb, ?_⟩
    rintro (⟨id, hid⟩ | ho)
    · rcases h.fnew id b hid with h1 | ⟨_, h1⟩
      · exact hf (.inl ⟨id, h1⟩)
      · omega
    · rw [h.owner b hb] at ho; exact hf (.inr ho)

theorem Grow.refl (G : Gh) (w : World) : Grow G w G w := ⟨Below.refl _ _, fun _ _ => rfl, fun _ _ => rfl, fun _ _ => rfl, fun _ _ h => h, fun _ _ h => .inl h⟩

theorem BlkAt.grow {P : Program} {G G' : Gh} {w w' : World} (h : Grow G w G' w') (g : GOk G w) {b : Nat} {k : Blk} (hb : b < w.heap.size) (r : BlkAt P (G.mem w) w b k) : BlkAt P (G'.mem w') w' b k := by
  obtain ⟨cs, h1, h2, h3, h4, h5⟩ := r
  exact ⟨cs, by rw [h.below.block b hb]; exact h1, h2, by show cs.size = G'.bs b; rw [h.bs b hb]; exact h3, fun j hj => (h.ext g).rep (h4 j hj), h5⟩

theorem OwnAt.grow {P : Program} {G G' : Gh} {w w' : World} (h : Grow G w G' w') {l : Loc} {x : AV} {v : Value} (r : OwnAt P G w l x v) : OwnAt P G' w' l x v := by
  intro e xs hx
  obtain ⟨sz, cells, h1, h2, h3, h4⟩ := r e xs hx
  refine ⟨sz, cells, h1, h2, h3.kept ⟨h.below.os, h.below.tape, h.below.output, h.below.size, fun i hi _ => h.below.block i hi⟩ (row := none) (by cases v.ownBlock <;> simp), ?_⟩
  intro g hg
  have hlt : g < w.heap.size := by
    rcases h3.2 with ⟨rfl, _⟩ | ⟨g', cap, cur, rfl, _, hh, _⟩
    · simp [Value.ownBlock] at hg
    · have : g' = g := by simpa [Value.ownBlock] using hg
      subst this
      exact (Array.getElem?_eq_some_iff.1 hh).1
  rw [h.owner g hlt, h.lim g hlt]
  exact h4 g hg

/-- The heap's own relation behind a step that makes memory, and perhaps the machine's next block. -/
theorem HeapRel.grow {P : Program} {G G' : Gh} {w w' : World} {H : List (Option Blk)} (h : Grow G w G' w') (g : GOk G w) (hf : ∀ id b, G'.f id = some b → G.f id = some b) (r : HeapRel P G H w) : HeapRel P G' H w' where
  dom := fun id b e => r.dom id b (hf id b e)
  blk := fun id b k e hk => (r.blk id b k (hf id b e) hk).grow h g (g.fin id b (hf id b e)).1
  inj := fun i j b k l e1 e2 => r.inj i j b k l (hf i b e1) (hf j b e2)

end Go.Proofs.Ytnajopkaepjncaa.Am
