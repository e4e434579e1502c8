/- The abstract machine is right, ninth part: whose an end is; what an operation leaves. -/
import Derived.Test.YtnajopkaepjncaaAm12
import Derived.Maps.AppendAt
import Derived.Lib.AppendStr
namespace Go.Proofs.Ytnajopkaepjncaa.Am
set_option linter.unusedVariables false
set_option linter.unusedSimpArgs false
open Go.RowKit

section
variable {P : Program} {w : World}

theorem beq_loc {a b : Loc} : Loc.beq a b = true ↔ a = b := by
  cases a <;> cases b <;> simp [Loc.beq]
theorem owns_iff {own : List Loc} {l : Loc} : owns own l = true ↔ l ∈ own := by
  simp only [owns, List.any_eq_true]
  constructor
  · rintro ⟨x, hx, hb⟩; rw [beq_loc] at hb; subst hb; exact hx
  · intro h; exact ⟨l, h, by rw [beq_loc]⟩
theorem mem_drop {own : List Loc} {l m : Loc} : m ∈ drop own l ↔ m ∈ own ∧ m ≠ l := by
  simp only [drop, List.mem_filter, Bool.not_eq_true', and_congr_right_iff]
  intro _
  constructor
  · intro h e; subst e; have : Loc.beq m m = true := beq_loc.2 rfl; rw [this] at h; cases h
  · intro h
    cases hb : Loc.beq l m with
    | false => rfl
    | true => rw [beq_loc] at hb; exact absurd hb.symm h
theorem mem_give {own : List Loc} {l m : Loc} : m ∈ give own l ↔ m = l ∨ (m ∈ own ∧ m ≠ l) := by simp only [give, List.mem_cons, mem_drop]

/-! ### an end that changes hands -/
def Gh.ren (G : Gh) (l l' : Loc) : Gh := { G with owner := fun b => if G.owner b = some l then some l' else G.owner b }
theorem ren_mem (G : Gh) (l l' : Loc) (w : World) : (G.ren l l').mem w = G.mem w := rfl
theorem ren_gok {G : Gh} (g : GOk G w) (l l' : Loc) : GOk (G.ren l l') w where
  fin := fun i b h => by
    obtain ⟨h1, h2, h3⟩ := g.fin i b h
    exact ⟨h1, h2, by show (if G.owner b = some l then some l' else G.owner b) = none; rw [h3]; rfl⟩
  new := fun b hb => by
    obtain ⟨h1, h2, h3⟩ := g.new b hb
    exact ⟨h1, by show (if G.owner b = some l then some l' else G.owner b) = none; rw [h2]; rfl, h3⟩
theorem ren_heap {G : Gh} {H : List (Option Blk)} (r : HeapRel P G H w) (l l' : Loc) : HeapRel P (G.ren l l') H w := ⟨r.dom, r.blk, r.inj⟩
theorem ren_ext (G : Gh) (l l' : Loc) : Ext G w (G.ren l l') w where
  os := rfl
  tape := rfl
  output := rfl
  size := Nat.le_refl _
  prot := fun _ _ _ h => h
  f := fun _ _ h => h
  bs := fun _ => Nat.le_refl _
  foreign := fun b _ hf => ⟨rfl, rfl, by
    rintro (h | h)
    · exact hf (.inl h)
    · refine hf (.inr ?_)
      change (if G.owner b = some l then some l' else G.owner b).isSome = true at h
      split at h
      · rename_i e; rw [e]; rfl
      · exact h⟩
theorem ren_own {G : Gh} {l : Loc} {x : AV} {v : Value} (r : OwnAt P G w l x v) (l' : Loc) : OwnAt P (G.ren l l') w l' x v := by
  intro e xs hx
  obtain ⟨sz, cells, h1, h2, h3, h4⟩ := r e xs hx
  refine ⟨sz, cells, h1, h2, h3, fun g hg => ⟨?_, (h4 g hg).2⟩⟩
  show (if G.owner g = some l then some l' else G.owner g) = some l'
  rw [(h4 g hg).1, if_pos rfl]
theorem ren_own_ne {G : Gh} {l m : Loc} {x : AV} {v : Value} (r : OwnAt P G w m x v) (h : m ≠ l) (l' : Loc) : OwnAt P (G.ren l l') w m x v := by
  intro e xs hx
  obtain ⟨sz, cells, h1, h2, h3, h4⟩ := r e xs hx
  refine ⟨sz, cells, h1, h2, h3, fun g hg => ⟨?_, (h4 g hg).2⟩⟩
  show (if G.owner g = some l then some l' else G.owner g) = some m
  rw [(h4 g hg).1, if_neg (by intro e; injection e with e; exact h e)]

/-- What an operation that is no call leaves, its value not yet put into slot d. -/
structure Done (P : Program) (G : Gh) (w : World) (env : List (Nat × AV)) (t : Nat → Value) (r : Res) (d : Nat) (v : Value) (w' : World) (G' : Gh) : Prop where
  ext : Ext G w G' w'
  ok : GOk G' w'
  heap : HeapRel P G' r.H w'
  rep : Rep P (G'.mem w') r.val v
  slot : ∀ s, s ≠ d → Loc.slot s ∈ r.own → OwnAt P G' w' (.slot s) (look env s) (t s)
  cell : ∀ id off b k cs, Loc.cell id off ∈ r.own → G'.f id = some b → r.H[id]? = some (some k) → w'.heap[b]? = some (.cells cs k.e (0, 0)) → OwnAt P G' w' (.cell id off) (k.cs.getD off .undef) (cs.getD off undef)
  gives : r.gives = true → OwnAt P G' w' (.slot d) r.val v
  dom : ∀ id off, Loc.cell id off ∈ r.own → Live r.H id

/-- Whose the ends are, with the slots' contents told by 't'. -/
structure Owns (P : Program) (G : Gh) (env : List (Nat × AV)) (H : List (Option Blk)) (own : List Loc) (t : Nat → Value) (w : World) : Prop where
  slot : ∀ s, Loc.slot s ∈ own → OwnAt P G w (.slot s) (look env s) (t s)
  cell : ∀ id off b k cs, Loc.cell id off ∈ own → G.f id = some b → H[id]? = some (some k) → w.heap[b]? = some (.cells cs k.e (0, 0)) → OwnAt P G w (.cell id off) (k.cs.getD off .undef) (cs.getD off undef)
  dom : ∀ id off, Loc.cell id off ∈ own → Live H id

theorem done_same {G : Gh} {env : List (Nat × AV)} {H : List (Option Blk)} {own : List Loc} {t : Nat → Value} (g : GOk G w) (h : HeapRel P G H w) (o : Owns P G env H own t w) {x : AV} {v : Value} (d : Nat) (r : Rep P (G.mem w) x v) :
    Done P G w env t ⟨x, H, own, false⟩ d v w G := ⟨Ext.refl _ _, g, h, r, fun s _ hs => o.slot s hs, o.cell, fun h => (by cases h), o.dom⟩

/-- The end of a slot's list goes on to another slot. -/
theorem done_slot {G : Gh} {env : List (Nat × AV)} {H : List (Option Blk)} {own : List Loc} {t : Nat → Value} (g : GOk G w) (h : HeapRel P G H w) (o : Owns P G env H own t w) (s d : Nat) (hs : Loc.slot s ∈ own) (r : Rep P (G.mem w) (look env s) (t s)) :
    Done P G w env t ⟨look env s, H, drop own (.slot s), true⟩ d (t s) w (G.ren (.slot s) (.slot d)) where
  ext := ren_ext _ _ _
  ok := ren_gok g _ _
  heap := ren_heap h _ _
  rep := r
  slot := fun s' _ hs' => by
    rw [mem_drop] at hs'
    exact ren_own_ne (o.slot s' hs'.1) hs'.2 _
  cell := fun id off b k cs hc hf hk hb => by
    rw [mem_drop] at hc
    exact ren_own_ne (o.cell id off b k cs hc.1 hf hk hb) hc.2 _
  gives := fun _ => ren_own (o.slot s hs) _
  dom := fun id off hm => o.dom id off (mem_drop.1 hm).1
theorem done_cell {G : Gh} {env : List (Nat × AV)} {H : List (Option Blk)} {own : List Loc} {t : Nat → Value} (g : GOk G w) (h : HeapRel P G H w) (o : Owns P G env H own t w) (id off d : Nat) {b : Nat} {k : Blk} {cs : Array Value} {x : AV} {v : Value}
    (hs : Loc.cell id off ∈ own) (hf : G.f id = some b) (hk : H[id]? = some (some k)) (hb : w.heap[b]? = some (.cells cs k.e (0, 0))) (hx : k.cs.getD off .undef = x) (hv : cs.getD off undef = v) (r : Rep P (G.mem w) x v) :
    Done P G w env t ⟨x, H, drop own (.cell id off), true⟩ d v w (G.ren (.cell id off) (.slot d)) where
  ext := ren_ext _ _ _
  ok := ren_gok g _ _
  heap := ren_heap h _ _
  rep := r
  slot := fun s' _ hs' => by
    rw [mem_drop] at hs'
    exact ren_own_ne (o.slot s' hs'.1) hs'.2 _
  cell := fun id' off' b' k' cs' hc hf' hk' hb' => by
    rw [mem_drop] at hc
    exact ren_own_ne (o.cell id' off' b' k' cs' hc.1 hf' hk' hb') hc.2 _
  gives := fun _ => by
    have := ren_own (o.cell id off b k cs hs hf hk hb) (.slot d)
    rw [hx, hv] at this
    exact this
  dom := fun id off hm => o.dom id off (mem_drop.1 hm).1

/-- A step that makes memory leaves all ends where they were. -/
theorem owns_grow {G G' : Gh} {w' : World} {env : List (Nat × AV)} {H : List (Option Blk)} {own : List Loc} {t : Nat → Value} (gr : Grow G w G' w') (g : GOk G w) (hf : ∀ id b, G'.f id = some b → G.f id = some b) (o : Owns P G env H own t w) : Owns P G' env H own t w' where
  slot := fun s hs => (o.slot s hs).grow gr
  cell := fun id off b k cs hc h hk hb => by
    have h0 := hf id b h
    have hlt := (g.fin id b h0).1
    rw [gr.below.block b hlt] at hb
    exact (o.cell id off b k cs hc h0 hk hb).grow gr
  dom := o.dom

theorem done_made {G G' : Gh} {w' : World} {env : List (Nat × AV)} {H : List (Option Blk)} {own : List Loc} {t : Nat → Value} (g : GOk G w) (h : HeapRel P G H w) (o : Owns P G env H own t w) {x : AV} {v : Value} {d : Nat} (m : Made P G w x v w' G' (.slot d)) (gv : Bool) :
    Done P G w env t ⟨x, H, own, gv⟩ d v w' G' := by
  have hf : ∀ id b, G'.f id = some b → G.f id = some b := fun id b e => by rw [m.f] at e; exact e
  have o' := owns_grow m.grow g hf o
  exact ⟨m.grow.ext g, m.ok, h.grow m.grow g hf, m.rep, fun s _ hs => o'.slot s hs, o'.cell, fun _ => m.own, o'.dom⟩

/-- A new block of the machine's own. -/
theorem done_new {G : Gh} {env : List (Nat × AV)} {H1 : List (Option Blk)} {own : List Loc} {t : Nat → Value} (g : GOk G w) (h : HeapRel P G H1 w) (o : Owns P G env H1 own t w) {id : Nat} (hid : G.f id = none) {xs : List AV} {cs : Array Value} {e : TypeId} (hc : CellsRep P (G.mem w) xs cs)
    (hH : H1[id]? = some (some ⟨e, xs⟩)) (hnc : ∀ off, Loc.cell id off ∉ own) (d : Nat) :
    Done P G w env t ⟨.ptr id 0, H1, own, false⟩ d (.pointer (some ⟨w.heap.size, 0, none⟩)) (w.alloc (.cells cs e)) (G.map id w.heap.size cs.size) where
  ext := (new_grow g hid cs e).ext g
  ok := new_gok g id cs e
  heap := new_heap g hid hc h hH
  rep := .ptr id 0 _ (upd_same _ _ _)
  slot := fun s _ hs => (o.slot s hs).grow (new_grow g hid cs e)
  cell := fun id' off b k cs' hcell hf hk hb => by
    by_cases hi : id' = id
    · subst hi; exact absurd hcell (hnc off)
    · change upd G.f id (some w.heap.size) id' = some b at hf
      rw [upd_ne _ _ hi] at hf
      have hlt := (g.fin id' b hf).1
      rw [(new_grow g hid cs e).below.block b hlt] at hb
      exact (o.cell id' off b k cs' hcell hf hk hb).grow (new_grow g hid cs e)
  gives := fun h => by cases h
  dom := o.dom

end
end Go.Proofs.Ytnajopkaepjncaa.Am
