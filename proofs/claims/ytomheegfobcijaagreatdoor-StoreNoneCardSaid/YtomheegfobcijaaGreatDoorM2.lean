/- The abstract machine is right, eighth part: lists that are made. -/
import Derived.Test.YtomheegfobcijaaGreatDoorM1
import Derived.Maps.AppendAt
import Derived.Lib.AppendStr
import Derived.RangeFuncRecord
import Derived.RangeFuncOwn
import Derived.MapKept
/- The abstract machine is right, eighth part: lists that are made. -/
namespace Go.Proofs.YtomheegfobcijaaGreatDoor.Am
set_option linter.unusedVariables false
set_option linter.unusedSimpArgs false
open Go.RowKit

section
variable {P : Program} {w : World}

theorem ofCells_cells {t : TypeId} {cs : List AV} {x : AV} (h : ofCells P t cs = some x) : x.cells = cs := by
  unfold ofCells at h
  split at h
  · injection h with h; subst h; rfl
  · split at h
    · rename_i y
      split at h
      · rename_i hy; injection h with h; subst h; cases y <;> simp [AV.isOne] at hy <;> rfl
      · cases h
    · cases h
  · cases h

theorem chop_spec {e : TypeId} {sz : Nat} : ∀ (n : Nat) (cs xs : List AV), chop P e sz n cs = some xs → cs.length = n * sz → xs.length = n ∧ (∀ x ∈ xs, x.cells.length = sz) ∧ flat xs = cs := by
  intro n
  induction n with
  | zero => intro cs xs h hl; simp only [chop, Option.some.injEq] at h; subst h; refine ⟨rfl, by simp, ?_⟩; rw [Nat.zero_mul] at hl; rw [List.eq_nil_of_length_eq_zero hl]; rfl
  | succ n ih =>
    intro cs xs h hl
    simp only [chop] at h
    rw [Nat.add_mul, Nat.one_mul] at hl
    split at h
    · rename_i x r hx hr
      injection h with h; subst h
      obtain ⟨h1, h2, h3⟩ := ih (cs.drop sz) r hr (by simp; omega)
      have hc := ofCells_cells hx
      refine ⟨by simp [h1], ?_, ?_⟩
      · intro y hy
        rcases List.mem_cons.1 hy with rfl | hy
        · rw [hc]; simp; omega
        · exact h2 y hy
      · simp only [flat, List.flatMap_cons] at h3 ⊢
        rw [h3, hc, List.take_append_drop]
    · cases h

theorem own_new {G : Gh} (g : GOk G w) {w' : World} (hb : Below w.heap.size w w') {cs : Array Value} {e : TypeId} {fr : Nat × Nat} (hfr : frOk cs.size fr) (hn : w'.heap[w.heap.size]? = some (.cells cs e fr)) {xs : List AV} {sz cap : Nat} {l : Loc}
    (hsz : sizeT P e = some sz) (hz : 0 < sz) (hcap : xs.length ≤ cap) (hm : cap ≤ maxLen) (hcs : cs.size = cap * sz) :
    OwnAt P (G.list w.heap.size (xs.length * sz) (some l)) w' l (.lst e xs []) (.slice (some ⟨w.heap.size, 0, none⟩) xs.length cap) := by
  intro e' xs' hx
  injection hx with h1 h2 h3
  subst h1; subst h2
  refine ⟨sz, cs.toList.take (xs.length * sz), hsz, hz, ⟨?_, .inr ⟨w.heap.size, cap, cs, rfl, Nat.zero_le _, ⟨fr, hn, hfr⟩, hcap, hm, hcs, rfl⟩⟩, ?_⟩
  · have hlt : cs.toList.length = cap * sz := by rw [Array.length_toList, hcs]
    have := Nat.mul_le_mul_right sz hcap
    rw [List.length_take, hlt]
    exact Nat.min_eq_left this
  · intro b hbk
    have : w.heap.size = b := by simpa [Value.ownBlock] using hbk
    subst this
    exact ⟨upd_same _ _ _, upd_same _ _ _⟩

theorem rep_getD {z : List AV} {sz : Nat} (hz : z.length = sz) (hp : 0 < sz) : ∀ (n j : Nat), j < n * sz → (rep n z).getD j .undef = z.getD (j % sz) .undef := by
  intro n
  induction n with
  | zero => intro j hj; omega
  | succ n ih =>
    intro j hj
    rw [Nat.add_mul, Nat.one_mul] at hj
    simp only [rep, List.replicate_succ, List.flatten_cons, List.getD_eq_getElem?_getD]
    by_cases h : j < sz
    · rw [List.getElem?_append_left (by omega), Nat.mod_eq_of_lt h]
    · rw [List.getElem?_append_right (by omega), hz]
      have := ih (j - sz) (by omega)
      simp only [rep, List.getD_eq_getElem?_getD] at this
      rw [this, Nat.mod_eq_sub_mod (by omega : j ≥ sz)]
theorem rep_length {z : List AV} {sz : Nat} (hz : z.length = sz) (n : Nat) : (rep n z).length = n * sz := by
  simp [rep, hz]

theorem made_getD {z : Array Value} {sz : Nat} (hz : z.size = sz) (hp : 0 < sz) (n j : Nat) (hj : j < n) : (madeCells z n).getD j undef = z.getD (j % sz) undef := by
  have : j % sz < z.size := by rw [hz]; exact Nat.mod_lt _ hp
  have e1 : (madeCells z n).getD j undef = z[j % sz]! := by
    simp [madeCells, Array.getD_eq_getD_getElem?, hj, hz]
  rw [e1, getElem!_pos z (j % sz) this, Array.getD_eq_getD_getElem?, Array.getElem?_eq_getElem this]
  rfl

theorem made_rep {M : Mem} {z : List AV} {zv : Array Value} (h : CellsRep P M z zv) {sz : Nat} (hz : z.length = sz) (hp : 0 < sz) (n : Nat) : CellsRep P M (rep n z) (madeCells zv (n * sz)) := by
  refine ⟨by rw [size_madeCells, rep_length hz], ?_, ?_⟩ <;> intro i hi <;> rw [rep_length hz] at hi
  · rw [rep_getD hz hp n i hi, made_getD (by rw [h.size, hz]) hp _ _ hi]
    exact h.at_ _ (by rw [hz]; exact Nat.mod_lt _ hp)
  · rw [made_getD (by rw [h.size, hz]) hp _ _ hi]
    exact h.one _ (by rw [hz]; exact Nat.mod_lt _ hp)

/-- What making a list leaves. -/
structure Made (P : Program) (G : Gh) (w : World) (x : AV) (v : Value) (w' : World) (G' : Gh) (l : Loc) : Prop where
  grow : Grow G w G' w'
  ok : GOk G' w'
  rep : Rep P (G'.mem w') x v
  f : G'.f = G.f
  own : OwnAt P G' w' l x v

theorem buildSlice_sound {G : Gh} (g : GOk G w) {t e : TypeId} {len sz : Nat} {ps : List (Nat × AV)} {qs : Array (Nat × Value)} {z cs xs : List AV} {l : Loc} (hu : P.underlying t = some (.slice e)) (hs : sizeT P e = some sz) (hz : zeroT P e = some z)
    (h1 : len * sz ≤ 16777216) (hp : 0 < sz) (hzl : z.length = sz) (hf : fillA (fun i => some (i * sz, sz)) (rep len z) ps = some cs) (hx : chop P e sz len cs = some xs) (hq : PartsRep P (G.mem w) ps qs.toList) :
    ∃ v w' G', (Instr.buildSlice t len qs).run P w = .ok v w' ∧ Made P G w (.lst e xs []) v w' G' l := by
  obtain ⟨zv, hzr, hzc⟩ := zero_sound (M := G.mem w) (w := w) hz
  have hmr := made_rep hzc hzl hp len
  obtain ⟨us, hus, hcu⟩ := fill_sound ps qs.toList _ cs _ hf hq hmr
  have hcl : cs.length = len * sz := by
    have h2 : us.size = (madeCells zv.cells (len * sz)).size := by
      have : ∀ (qs : List (Nat × Value)) (a b : Array Value), Instr.fill (fun i => some (i * sz, sz)) a qs = some b → b.size = a.size := by
        intro qs
        induction qs with
        | nil => intro a b h; simp only [Instr.fill, Option.some.injEq] at h; rw [h]
        | cons q r ih =>
          obtain ⟨i, v⟩ := q
          intro a b h
          simp only [Instr.fill] at h
          split at h
          · cases h
          · rw [ih _ _ h]
            have : ∀ (l : List (Value × Nat)) (a : Array Value), (l.foldl (fun cs (x : Value × Nat) => cs.setIfInBounds (i * sz + x.2) x.1) a).size = a.size := by
              intro l
              induction l with
              | nil => intro a; rfl
              | cons y l ih => intro a; rw [List.foldl_cons, ih, Array.size_setIfInBounds]
            rw [← Array.foldl_toList]
            exact this _ _
      exact this _ _ _ hus
    rw [← hcu.size, h2, size_madeCells]
  obtain ⟨q1, q2, q3⟩ := chop_spec len cs xs hx hcl
  subst q1
  have hbel : Below w.heap.size w (w.alloc (.cells us e)) := (Below.refl _ _).alloc (Nat.le_refl _) _
  refine ⟨.slice (some ⟨w.heap.size, 0, none⟩) xs.length xs.length, w.alloc (.cells us e), G.list w.heap.size (xs.length * sz) (some l), ?_, ?_⟩
  · have hng : ¬ xs.length * sz > 2 ^ 24 := by omega
    by_cases h0 : xs.length * sz = 0
    · have hmade : madeCells zv.cells (xs.length * sz) = (Array.range (xs.length * sz)).map fun x => (#[] : Array Value)[x % (#[] : Array Value).size]! := by
        rw [h0]; simp [madeCells, Array.range_zero']
      rw [hmade] at hus
      simp only [Instr.buildSlice, Sem.run_bind, run_underlying' hu, Result.andThen_ok, run_sizeT hs, if_neg hng, if_pos h0, Sem.run_pure, hus, newRow, run_newObj]
      rfl
    · simp only [madeCells] at hus
      simp only [Instr.buildSlice, Sem.run_bind, run_underlying' hu, Result.andThen_ok, run_sizeT hs, if_neg hng, if_neg h0, hzr, Sem.run_pure, hus, newRow, run_newObj]
      rfl
  · refine ⟨list_grow g hbel _ _, list_gok g hbel (by simp) _ _, ?_, rfl, ?_⟩
    · refine list_rep g hbel (alloc_heap_new w _) _ hs hp q2 (Nat.le_refl _) ?_
      intro j hj
      rw [q3] at hj ⊢
      exact ⟨by rw [hcu.size]; exact hj, hcu.at_ j hj, hcu.one j hj⟩
    · refine own_new g hbel (.inl rfl) (alloc_heap_new w _) hs hp (Nat.le_refl _) ?_ (by rw [hcu.size, hcl])
      have : xs.length ≤ xs.length * sz := Nat.le_mul_of_pos_right _ hp
      unfold maxLen; omega

theorem makeSlice_sound {G : Gh} (g : GOk G w) {t e : TypeId} {n c : Nat} {k1 k2 : IntKind} {i : TypeInfo} {z : List AV} {x : AV} {l : Loc} (hu : P.underlying t = some (.slice e)) (hi : P.info? e = some i) (hz : zeroT P e = some z)
    (hnc : n ≤ c) (hby : c * i.bytes ≤ 140737488355328) (hc : c ≤ 140737488355328) (hp : 0 < i.size) (hzl : z.length = i.size) (hx : ofCells P e z = some x) :
    ∃ v w' G', (Instr.makeSlice t (.int k1 n) (.int k2 c)).run P w = .ok v w' ∧ Made P G w (.lst e (List.replicate n x) []) v w' G' l := by
  have hs : sizeT P e = some i.size := by simp [sizeT, hi]
  obtain ⟨zv, hzr, hzc⟩ := zero_sound (M := G.mem w) (w := w) hz
  have hzz : i.zero = some zv := by
    unfold zeroT at hz
    simp only [zeroValue, Sem.run_bind, run_typeInfo' hi, Result.andThen_ok] at hzr
    cases hiz : i.zero with
    | none => rw [hiz] at hzr; simp at hzr
    | some q => rw [hiz] at hzr; simp at hzr; rw [hzr]
  have hrun := run_make (P := P) w t e i zv hu hi hzz k1 k2 n c (by omega) (by omega) (by
    have : ((i.bytes * c : Nat) : Int) ≤ 281474976710656 := by rw [Nat.mul_comm]; omega
    rwa [Int.natCast_mul] at this) (by omega)
  simp only [Int.toNat_natCast] at hrun
  have hmr := made_rep hzc hzl hp c
  have hbel : Below w.heap.size w (w.alloc (.cells (madeCells zv.cells (c * i.size)) e)) := (Below.refl _ _).alloc (Nat.le_refl _) _
  have hxc := ofCells_cells hx
  have hall : ∀ y ∈ List.replicate n x, y.cells.length = i.size := by intro y hy; rw [List.eq_of_mem_replicate hy, hxc, hzl]
  have hfl := flat_len _ hall
  rw [List.length_replicate] at hfl
  have hflat : flat (List.replicate n x) = rep n z := by
    simp only [flat, rep, List.flatMap_def, List.map_replicate, hxc]
  have hle : n * i.size ≤ c * i.size := Nat.mul_le_mul_right _ hnc
  have hrr : ∀ j, j < n * i.size → (rep n z).getD j .undef = (rep c z).getD j .undef := by
    intro j hj
    rw [rep_getD hzl hp n j hj, rep_getD hzl hp c j (by omega)]
  have hG : (G.list w.heap.size ((List.replicate n x).length * i.size) (some l)) = G.list w.heap.size (n * i.size) (some l) := by rw [List.length_replicate]
  refine ⟨_, _, G.list w.heap.size (n * i.size) (some l), hrun, ?_⟩
  refine ⟨list_grow g hbel _ _, list_gok g hbel (by simp) _ _, ?_, rfl, ?_⟩
  · have := list_rep g hbel (alloc_heap_new w _) (some l) hs hp hall (cap := c) (by rw [List.length_replicate]; exact hnc) (by
      intro j hj
      rw [hflat] at hj ⊢
      rw [rep_length hzl] at hj
      refine ⟨by rw [size_madeCells]; omega, ?_, hmr.one j (by rw [rep_length hzl]; omega)⟩
      rw [hrr j hj]
      exact hmr.at_ j (by rw [rep_length hzl]; omega))
    rw [hG, List.length_replicate] at this
    exact this
  · have := own_new (P := P) (l := l) g hbel (.inl rfl) (alloc_heap_new w _) (xs := List.replicate n x) hs hp (cap := c) (by rw [List.length_replicate]; exact hnc) (by unfold maxLen; omega) (by rw [size_madeCells])
    rw [hG, List.length_replicate] at this
    exact this

end
end Go.Proofs.YtomheegfobcijaaGreatDoor.Am

/- The abstract machine is right, ninth part: whose an end is; what an operation leaves. -/
namespace Go.Proofs.YtomheegfobcijaaGreatDoor.Am
set_option linter.unusedVariables false
set_option linter.unusedSimpArgs false
open Go.RowKit

section
variable {P : Program} {w : World}

theorem beq_loc {a b : Loc} : Loc.beq a b = true ↔ a = b := by
  cases a <;> cases b <;> simp [Loc.beq]
theorem owns_iff {own : List Loc} {l : Loc} : owns own l = true ↔ l ∈ own := by
  simp only [owns, List.any_eq_true]
  constructor
  · rintro ⟨x, hx, hb⟩; rw [beq_loc] at hb; subst hb; exact hx
  · intro h; exact ⟨l, h, by rw [beq_loc]⟩
theorem mem_drop {own : List Loc} {l m : Loc} : m ∈ drop own l ↔ m ∈ own ∧ m ≠ l := by
  simp only [drop, List.mem_filter, Bool.not_eq_true', and_congr_right_iff]
  intro _
  constructor
  · intro h e; subst e; have : Loc.beq m m = true := beq_loc.2 rfl; rw [this] at h; cases h
  · intro h
    cases hb : Loc.beq l m with
    | false => rfl
    | true => rw [beq_loc] at hb; exact absurd hb.symm h
theorem mem_give {own : List Loc} {l m : Loc} : m ∈ give own l ↔ m = l ∨ (m ∈ own ∧ m ≠ l) := by simp only [give, List.mem_cons, mem_drop]

/-! ### an end that changes hands -/
def Gh.ren (G : Gh) (l l' : Loc) : Gh := { G with owner := fun b => if G.owner b = some l then some l' else G.owner b }
theorem ren_heap {G : Gh} {H : List (Option Blk)} (r : HeapRel P G H w) (l l' : Loc) : HeapRel P (G.ren l l') H w := ⟨r.dom, r.blk, r.inj, r.lim⟩
theorem ren_ext (G : Gh) (l l' : Loc) : Ext G w (G.ren l l') w where
  os := rfl
  tape := rfl
  output := rfl
  size := Nat.le_refl _
  prot := fun _ _ _ h => h
  f := fun _ _ h => h
  bs := fun _ => Nat.le_refl _
  foreign := fun b _ hf => ⟨rfl, rfl, (by
    rintro (h | h)
    · exact hf (.inl h)
    · refine hf (.inr ?_)
      change (if G.owner b = some l then some l' else G.owner b).isSome = true at h
      split at h
      · rename_i e; rw [e]; rfl
      · exact h), fun _ h => h⟩
theorem ren_gok {G : Gh} (g : GOk G w) (l l' : Loc) : GOk (G.ren l l') w where
  fin := fun i b h => by
    obtain ⟨h1, h3⟩ := g.fin i b h
    exact ⟨h1, by show (if G.owner b = some l then some l' else G.owner b) = none; rw [h3]; rfl⟩
  new := fun b hb => by
    obtain ⟨h1, h2, h3⟩ := g.new b hb
    exact ⟨h1, by show (if G.owner b = some l then some l' else G.owner b) = none; rw [h2]; rfl, h3⟩
  held := (ren_ext G l l').held g.held
theorem ren_own {G : Gh} {l : Loc} {x : AV} {v : Value} (r : OwnAt P G w l x v) (l' : Loc) : OwnAt P (G.ren l l') w l' x v := by
  intro e xs hx
  obtain ⟨sz, cells, h1, h2, h3, h4⟩ := r e xs hx
  refine ⟨sz, cells, h1, h2, h3, fun g hg => ⟨?_, (h4 g hg).2⟩⟩
  show (if G.owner g = some l then some l' else G.owner g) = some l'
  rw [(h4 g hg).1, if_pos rfl]
theorem ren_own_ne {G : Gh} {l m : Loc} {x : AV} {v : Value} (r : OwnAt P G w m x v) (h : m ≠ l) (l' : Loc) : OwnAt P (G.ren l l') w m x v := by
  intro e xs hx
  obtain ⟨sz, cells, h1, h2, h3, h4⟩ := r e xs hx
  refine ⟨sz, cells, h1, h2, h3, fun g hg => ⟨?_, (h4 g hg).2⟩⟩
  show (if G.owner g = some l then some l' else G.owner g) = some m
  rw [(h4 g hg).1, if_neg (by intro e; injection e with e; exact h e)]

/-- What an operation that is no call leaves, its value not yet put into slot d. -/
structure Done (P : Program) (G : Gh) (w : World) (env : List (Nat × AV)) (t : Nat → Value) (r : Res) (d : Nat) (v : Value) (w' : World) (G' : Gh) : Prop where
  ext : Ext G w G' w'
  ok : GOk G' w'
  heap : HeapRel P G' r.H w'
  rep : Rep P (G'.mem w') r.val v
  slot : ∀ s, s ≠ d → Loc.slot s ∈ r.own → OwnAt P G' w' (.slot s) (look env s) (t s)
  cell : ∀ id off b k cs, Loc.cell id off ∈ r.own → G'.f id = some b → r.H[id]? = some (some k) → w'.heap[b]? = some (.cells cs k.e (0, 0)) → OwnAt P G' w' (.cell id off) (k.cs.getD off .undef) (cs.getD off undef)
  gives : r.gives = true → OwnAt P G' w' (.slot d) r.val v
  dom : ∀ id off, Loc.cell id off ∈ r.own → Mapped G' r.H id

/-- Whose the ends are, with the slots' contents told by 't'. -/
structure Owns (P : Program) (G : Gh) (env : List (Nat × AV)) (H : List (Option Blk)) (own : List Loc) (t : Nat → Value) (w : World) : Prop where
  slot : ∀ s, Loc.slot s ∈ own → OwnAt P G w (.slot s) (look env s) (t s)
  cell : ∀ id off b k cs, Loc.cell id off ∈ own → G.f id = some b → H[id]? = some (some k) → w.heap[b]? = some (.cells cs k.e (0, 0)) → OwnAt P G w (.cell id off) (k.cs.getD off .undef) (cs.getD off undef)
  dom : ∀ id off, Loc.cell id off ∈ own → Mapped G H id

theorem done_same {G : Gh} {env : List (Nat × AV)} {H : List (Option Blk)} {own : List Loc} {t : Nat → Value} (g : GOk G w) (h : HeapRel P G H w) (o : Owns P G env H own t w) {x : AV} {v : Value} (d : Nat) (r : Rep P (G.mem w) x v) :
    Done P G w env t ⟨x, H, own, false⟩ d v w G := ⟨Ext.refl _ _, g, h, r, fun s _ hs => o.slot s hs, o.cell, fun h => (by cases h), o.dom⟩

/-- The end of a slot's list goes on to another slot. -/
theorem done_nils {G : Gh} {env : List (Nat × AV)} {H : List (Option Blk)} {own : List Loc} {t : Nat → Value} (g : GOk G w) (h : HeapRel P G H w) (o : Owns P G env H own t w) {x : AV} {v : Value} (d : Nat) (r : Rep P (G.mem w) x v) :
    Done P G w env t ⟨x, H, own, isNils x⟩ d v w G where
  ext := (done_same g h o d r).ext
  ok := g
  heap := h
  rep := r
  slot := (done_same g h o d r).slot
  cell := (done_same g h o d r).cell
  gives := fun hx e xs hl => by
    change isNils x = true at hx
    change x = _ at hl
    rw [hl] at hx; cases hx
  dom := (done_same g h o d r).dom
theorem mem_dropO {own : List Loc} {x : Operand} {l : Loc} (h : l ∈ dropO own x) : l ∈ own := by
  unfold dropO at h
  split at h
  · exact (mem_drop.1 h).1
  · exact h
theorem Done.sub {G G' : Gh} {w' : World} {env : List (Nat × AV)} {t : Nat → Value} {x : AV} {H : List (Option Blk)} {own own' : List Loc} {g : Bool} {d : Nat} {v : Value} (h : Done P G w env t ⟨x, H, own, g⟩ d v w' G') (hs : ∀ l ∈ own', l ∈ own) :
    Done P G w env t ⟨x, H, own', g⟩ d v w' G' where
  ext := h.ext
  ok := h.ok
  heap := h.heap
  rep := h.rep
  slot := fun s hd hm => h.slot s hd (hs _ hm)
  cell := fun id off b k cs hm => h.cell id off b k cs (hs _ hm)
  gives := h.gives
  dom := fun id off hm => h.dom id off (hs _ hm)
theorem done_slot {G : Gh} {env : List (Nat × AV)} {H : List (Option Blk)} {own : List Loc} {t : Nat → Value} (g : GOk G w) (h : HeapRel P G H w) (o : Owns P G env H own t w) (s d : Nat) (hs : Loc.slot s ∈ own) (r : Rep P (G.mem w) (look env s) (t s)) :
    Done P G w env t ⟨look env s, H, drop own (.slot s), true⟩ d (t s) w (G.ren (.slot s) (.slot d)) where
  ext := ren_ext _ _ _
  ok := ren_gok g _ _
  heap := ren_heap h _ _
  rep := r
  slot := fun s' _ hs' => by
    rw [mem_drop] at hs'
    exact ren_own_ne (o.slot s' hs'.1) hs'.2 _
  cell := fun id off b k cs hc hf hk hb => by
    rw [mem_drop] at hc
    exact ren_own_ne (o.cell id off b k cs hc.1 hf hk hb) hc.2 _
  gives := fun _ => ren_own (o.slot s hs) _
  dom := fun id off hm => o.dom id off (mem_drop.1 hm).1
theorem done_cell {G : Gh} {env : List (Nat × AV)} {H : List (Option Blk)} {own : List Loc} {t : Nat → Value} (g : GOk G w) (h : HeapRel P G H w) (o : Owns P G env H own t w) (id off d : Nat) {b : Nat} {k : Blk} {cs : Array Value} {x : AV} {v : Value}
    (hs : Loc.cell id off ∈ own) (hf : G.f id = some b) (hk : H[id]? = some (some k)) (hb : w.heap[b]? = some (.cells cs k.e (0, 0))) (hx : k.cs.getD off .undef = x) (hv : cs.getD off undef = v) (r : Rep P (G.mem w) x v) :
    Done P G w env t ⟨x, H, drop own (.cell id off), true⟩ d v w (G.ren (.cell id off) (.slot d)) where
  ext := ren_ext _ _ _
  ok := ren_gok g _ _
  heap := ren_heap h _ _
  rep := r
  slot := fun s' _ hs' => by
    rw [mem_drop] at hs'
    exact ren_own_ne (o.slot s' hs'.1) hs'.2 _
  cell := fun id' off' b' k' cs' hc hf' hk' hb' => by
    rw [mem_drop] at hc
    exact ren_own_ne (o.cell id' off' b' k' cs' hc.1 hf' hk' hb') hc.2 _
  gives := fun _ => by
    have := ren_own (o.cell id off b k cs hs hf hk hb) (.slot d)
    rw [hx, hv] at this
    exact this
  dom := fun id off hm => o.dom id off (mem_drop.1 hm).1

/-- A step that makes memory leaves all ends where they were. -/
theorem owns_grow {G G' : Gh} {w' : World} {env : List (Nat × AV)} {H : List (Option Blk)} {own : List Loc} {t : Nat → Value} (gr : Grow G w G' w') (g : GOk G w) (hf : ∀ id b, G'.f id = some b → G.f id = some b) (o : Owns P G env H own t w) : Owns P G' env H own t w' where
  slot := fun s hs => (o.slot s hs).grow gr
  cell := fun id off b k cs hc h hk hb => by
    have h0 := hf id b h
    have hlt := (g.fin id b h0).1
    rw [gr.below.block b hlt] at hb
    exact (o.cell id off b k cs hc h0 hk hb).grow gr
  dom := fun i off hm => (o.dom i off hm).mono gr.f

theorem done_made {G G' : Gh} {w' : World} {env : List (Nat × AV)} {H : List (Option Blk)} {own : List Loc} {t : Nat → Value} (g : GOk G w) (h : HeapRel P G H w) (o : Owns P G env H own t w) {x : AV} {v : Value} {d : Nat} (m : Made P G w x v w' G' (.slot d)) (gv : Bool) :
    Done P G w env t ⟨x, H, own, gv⟩ d v w' G' := by
  have hf : ∀ id b, G'.f id = some b → G.f id = some b := fun id b e => by rw [m.f] at e; exact e
  have o' := owns_grow m.grow g hf o
  exact ⟨m.grow.ext g, m.ok, h.grow m.grow g hf, m.rep, fun s _ hs => o'.slot s hs, o'.cell, fun _ => m.own, o'.dom⟩

/-- A new block of the machine's own. -/
theorem done_new {G : Gh} {env : List (Nat × AV)} {H1 : List (Option Blk)} {own : List Loc} {t : Nat → Value} (g : GOk G w) (h : HeapRel P G H1 w) (o : Owns P G env H1 own t w) {id : Nat} (hid : G.f id = none) {xs : List AV} {cs : Array Value} {e : TypeId} (hc : CellsRep P (G.mem w) xs cs)
    (hH : H1[id]? = some (some ⟨e, xs⟩)) (hnc : ∀ off, Loc.cell id off ∉ own) (he : Nat.beq e LOOP = false) (d : Nat) :
    Done P G w env t ⟨.ptr id 0, H1, own, false⟩ d (.pointer (some ⟨w.heap.size, 0, none⟩)) (w.alloc (.cells cs e)) (G.map id w.heap.size cs.size) where
  ext := (new_grow g hid cs e).ext g
  ok := new_gok g hid cs e
  heap := new_heap g hid hc h hH he
  rep := .ptr id 0 _ (upd_same _ _ _)
  slot := fun s _ hs => (o.slot s hs).grow (new_grow g hid cs e)
  cell := fun id' off b k cs' hcell hf hk hb => by
    by_cases hi : id' = id
    · subst hi; exact absurd hcell (hnc off)
    · change upd G.f id (some w.heap.size) id' = some b at hf
      rw [upd_ne _ _ hi] at hf
      have hlt := (g.fin id' b hf).1
      rw [(new_grow g hid cs e).below.block b hlt] at hb
      exact (o.cell id' off b k cs' hcell hf hk hb).grow (new_grow g hid cs e)
  gives := fun h => by cases h
  dom := fun i off hm => (o.dom i off hm).mono (new_grow g hid cs e).f

end
end Go.Proofs.YtomheegfobcijaaGreatDoor.Am

/- The abstract machine is right, tenth part: 'append'. -/
namespace Go.Proofs.YtomheegfobcijaaGreatDoor.Am
set_option linter.unusedVariables false
set_option linter.unusedSimpArgs false
open Go.RowKit

section
variable {P : Program} {w : World}

/-- A slice or a string. -/
def SlStr (d : TypeDesc) : Prop := (∃ e, d = .slice e) ∨ d = .string

theorem run_store_fr (g o : Nat) (t : TypeId) (fr : Nat × Nat) : ∀ (vs : List Value) (i : Nat) (cur : Array Value) (w : World), w.heap[g]? = some (.cells cur t fr) → frOk cur.size fr → o + i + vs.length ≤ cur.size → (∀ v ∈ vs, v.oneCell' = true) →
    (storeCells ⟨g, o, none⟩ vs i).run P w = .ok () (w.setRow g (cur.toList.take (o + i) ++ vs ++ cur.toList.drop (o + i + vs.length)).toArray)
  | [], i, cur, w, hg, _, _, _ => by
    simp only [storeCells, List.append_nil, List.length_nil, Nat.add_zero, List.take_append_drop, Array.toArray_toList]
    rw [setRow_self w g cur t fr hg]
    rfl
  | v :: rest, i, cur, w, hg, hfr, hl, h1 => by
    have hi : o + i < cur.size := by simp at hl; omega
    have hadd : (⟨g, o, none⟩ : Addr).add i = ⟨g, o + i, none⟩ := by unfold Addr.add; split <;> simp_all
    have hcell : w.cell? ⟨g, o + i, none⟩ = some cur[o + i] := by simp [World.cell?, hg, hi]
    have hfro : w.frozen? ⟨g, o + i, none⟩ = false := by
      rcases hfr with rfl | hfr
      · simp [World.frozen?, hg]
      · simp [World.frozen?, hg]; omega
    have hst : (store ((⟨g, o, none⟩ : Addr).add i) v).run P w = .ok () (w.setRow g (cur.setIfInBounds (o + i) v)) := by
      rw [hadd, run_store P w _ v _ (h1 v (by simp)), hcell]
      simp [hfro, setCell_eq_setRow w g (o + i) cur t fr v hg]
    have ih := run_store_fr g o t fr rest (i + 1) (cur.setIfInBounds (o + i) v) (w.setRow g (cur.setIfInBounds (o + i) v)) (setRow_heap w g cur _ t _ hg) (by simpa using hfr) (by simp at hl ⊢; omega) (fun x hx => h1 x (by simp [hx]))
    simp only [storeCells, Sem.run_bind, hst, Result.andThen_ok, ih, setRow_setRow]
    congr 3
    have e := list_seg_step cur.toList (o + i) v rest (by simp at hl ⊢; omega)
    simpa [Array.toList_setIfInBounds, Nat.add_assoc] using e
/-- Room: the new cells come behind the old ones, in place. -/
theorem app_room {t u ty e : TypeId} {i : TypeInfo} {du : TypeDesc} (ht : P.underlying t = some (.slice e)) (hu : P.underlying u = some du) (hdu : SlStr du) (hi : P.info? e = some i)
    {g n cap m : Nat} {cur : Array Value} {fr : Nat × Nat} (hfr : frOk cur.size fr) (hg : w.heap[g]? = some (.cells cur e fr)) {y : Value} {news : List Value} (hl : (Builtin.lenOf y).run P w = .ok m w) (hf : (Builtin.firstCells i.size m y).run P w = .ok news.toArray w)
    (h1 : ∀ u ∈ news, u.oneCell' = true) (hroom : n + m ≤ cap) (hfit : n * i.size + news.length ≤ cur.size) :
    (Builtin.append_ #[t, u] ty #[.slice (some ⟨g, 0, none⟩) n cap, y]).run P w =
      .ok (.slice (some ⟨g, 0, none⟩) (n + m) cap) (w.setRow g (cur.toList.take (n * i.size) ++ news ++ cur.toList.drop (n * i.size + news.length)).toArray) := by
  have hst := run_store_fr (P := P) g (n * i.size) e fr news 0 cur w hg hfr (by simpa using hfit) h1
  simp only [Nat.add_zero] at hst
  have ha : (⟨g, 0, none⟩ : Addr).add (n * i.size) = ⟨g, n * i.size, none⟩ := by rw [add_addr, Nat.zero_add]
  have hs : sizeT P e = some i.size := by simp [sizeT, hi]
  obtain ⟨q, rfl⟩ | rfl := hdu
  all_goals simp only [Builtin.append_, List.getElem?_toArray, List.getElem?_cons_zero, List.getElem?_cons_succ, Sem.run_bind, run_underlying' ht, run_underlying' hu, Result.andThen_ok, run_sizeT hs, Sem.run_pure, Bool.false_eq_true, if_false, hl,
    Bool.not_false, if_true, if_pos hroom, hf, ha, hst]

/-- No room: all is laid anew. -/
theorem app_grow {t u ty e : TypeId} {i : TypeInfo} {z : Value} {du : TypeDesc} (ht : P.underlying t = some (.slice e)) (hu : P.underlying u = some du) (hdu : SlStr du) (hi : P.info? e = some i) (hz : i.zero = some z)
    {a : Option Addr} {n cap m : Nat} {y : Value} {olds news : List Value} (hl : (Builtin.lenOf y).run P w = .ok m w) (hf : (Builtin.firstCells i.size m y).run P w.drew = .ok news.toArray w.drew)
    (hfo : (Builtin.firstCells i.size n (.slice a n cap)).run P w.drew = .ok olds.toArray w.drew)
    (hg : cap < n + m) (h63 : n + m ≤ 140737488355328) (hby : (n + m) * i.bytes ≤ 140737488355328) :
    (Builtin.append_ #[t, u] ty #[.slice a n cap, y]).run P w =
      .ok (.slice (some ⟨w.heap.size, 0, none⟩) (n + m) (grownCap w (n + m) cap e)) (w.drew.alloc (.cells (olds ++ news ++ (Builtin.zeroCells z.cells (grownCap w (n + m) cap e - (n + m))).toList).toArray e)) := by
  have hn : ¬ (n + m ≤ cap) := by omega
  have hfit := growslice_fits (bytes := i.bytes) hg hby
  have hs : sizeT P e = some i.size := by simp [sizeT, hi]
  have harr : olds.toArray ++ news.toArray ++ Builtin.zeroCells z.cells (grownCap w (n + m) cap e - (n + m)) = (olds ++ news ++ (Builtin.zeroCells z.cells (grownCap w (n + m) cap e - (n + m))).toList).toArray := by
    apply Array.ext'; simp
  rw [← harr]
  have h63' : ¬ ((((n + m : Nat) : Int) > IntKind.i64.max) ∧ ((false = true) ∨ i.bytes = 0)) := by
    have : IntKind.i64.max = 9223372036854775807 := by decide
    rw [this]; omega
  have h48' : ¬ (Builtin.nextslicecap (n + m) cap * i.bytes > 2 ^ 48) := by omega
  have hzv : ∀ w : World, (zeroValue e).run P w = .ok z w := by
    intro w
    simp only [zeroValue, Sem.run_bind, run_typeInfo' hi, Result.andThen_ok, hz, Sem.run_pure]
  have hch : (choose (.appendCap (n + m) cap e)).run P w = .ok (grownCap w (n + m) cap e) w.drew := by
    rw [run_choose]
    simp only [Question.forced, Bool.false_eq_true, if_false]
    rfl
  obtain ⟨q, rfl⟩ | rfl := hdu
  all_goals simp only [Builtin.append_, List.getElem?_toArray, List.getElem?_cons_zero, List.getElem?_cons_succ, Sem.run_bind, run_underlying' ht, run_underlying' hu, Result.andThen_ok, run_sizeT hs, Sem.run_pure, Bool.false_eq_true, if_false, hl,
    Bool.not_false, if_true, if_neg hn]
  all_goals have hti : (typeInfo e).run P w = .ok i w := run_typeInfo' hi
  all_goals simp only [Sem.run_bind, hti, Result.andThen_ok, Sem.run_ite, Sem.run_pure, if_neg h48']
  all_goals simp only [false_or, Bool.false_eq_true] at h63' ⊢
  all_goals rw [if_neg h63']
  all_goals simp only [Result.andThen_ok, hch, run_askRoom, hfo, hf, hzv, newRow, Sem.run_bind, run_newObj, Sem.run_pure, run_typeInfo' hi]
  all_goals rfl

theorem app_none {t u ty e : TypeId} {i : TypeInfo} {du : TypeDesc} (ht : P.underlying t = some (.slice e)) (hu : P.underlying u = some du) (hdu : SlStr du) (hi : P.info? e = some i)
    {y : Value} {news : List Value} (hl : (Builtin.lenOf y).run P w = .ok 0 w) (hf : (Builtin.firstCells i.size 0 y).run P w = .ok news.toArray w) :
    (Builtin.append_ #[t, u] ty #[.slice none 0 0, y]).run P w = .ok (.slice none 0 0) w := by
  have hs : sizeT P e = some i.size := by simp [sizeT, hi]
  obtain ⟨q, rfl⟩ | rfl := hdu
  all_goals simp only [Builtin.append_, List.getElem?_toArray, List.getElem?_cons_zero, List.getElem?_cons_succ, Sem.run_bind, run_underlying' ht, run_underlying' hu, Result.andThen_ok, run_sizeT hs, Sem.run_pure, Bool.false_eq_true, if_false, hl,
    Bool.not_false, if_true, Nat.add_zero, if_pos (Nat.le_refl 0), hf]

/-- What is appended, as cells. -/
theorem tail_cells {M : Mem} {G : Gh} (hM : M = G.mem w) {e ts t : TypeId} {y : AV} {v : Value} {ys : List AV} {sz : Nat} (h : tailA P e ts t y = some ys) (r : Rep P M y v) (hts : P.underlying ts = some (.slice e)) (hs : sizeT P e = some sz) (hz : 0 < sz) :
    ∃ (du : TypeDesc) (news : List Value), P.underlying t = some du ∧ SlStr du ∧ (Builtin.lenOf v).run P w = .ok ys.length w ∧ (∀ w2 : World, w2.heap = w.heap → (Builtin.firstCells sz ys.length v).run P w2 = .ok news.toArray w2) ∧
      news.length = ys.length * sz ∧ (∀ x ∈ ys, x.cells.length = sz) ∧ (∀ j, j < news.length → Rep P M ((flat ys).getD j .undef) (news.getD j undef) ∧ (news.getD j undef).oneCell' = true) := by
  subst hM
  unfold tailA at h
  split at h
  · rename_i e' e'' ys' sp hu
    split at h
    · rename_i hc
      obtain ⟨rfl, rfl⟩ := hc
      injection h with h; subst h
      cases r with
      | lst _ _ _ a cap sz' b off c hsz hz' hall hcap ha hc hr h1 =>
        obtain rfl : sz = sz' := by rw [hs] at hsz; exact Option.some.inj hsz
        have hall' : ∀ x ∈ ys', x.cells.length = sz := fun x hx => hall x (by simp [hx])
        have hfl := flat_len _ hall'
        have hfl2 := flat_len _ hall
        have hlt : ∀ j, j < ys'.length * sz → j < (flat (ys' ++ sp)).length := by
          intro j hj
          rw [hfl2, List.length_append, Nat.add_mul]; omega
        have hget : ∀ j, j < ys'.length * sz → (flat (ys' ++ sp)).getD j .undef = (flat ys').getD j .undef := by
          intro j hj
          rw [flat_append]
          simp only [List.getD_eq_getElem?_getD]
          rw [List.getElem?_append_left (by omega)]
        refine ⟨_, (List.range (ys'.length * sz)).map c, hts, .inl ⟨_, rfl⟩, rfl, ?_, by simp, hall', ?_⟩
        · intro w2 hw2
          by_cases h0 : ys' ++ sp = []
          · have h0' : ys' = [] := (List.append_eq_nil_iff.1 h0).1
            subst h0'
            cases a <;> simp [Builtin.firstCells, loadCells, loadCellsFrom]
          · obtain rfl := ha h0
            simp only [Builtin.firstCells]
            have := run_loadCells (P := P) w2 ⟨b, off, none⟩ (ys'.length * sz) c (fun j hj => by
              rw [add_addr]
              have := pm_cell (hc j (hlt j hj))
              unfold World.cell? at this ⊢
              rw [hw2]; exact this)
            rw [this]
        · intro j hj
          simp only [List.length_map, List.length_range] at hj
          have e1 : ((List.range (ys'.length * sz)).map c).getD j undef = c j := by simp [List.getD_eq_getElem?_getD, hj]
          rw [e1, ← hget j hj]
          exact ⟨hr j (hlt j hj), h1 j (hlt j hj)⟩
    · cases h
  · rename_i e' hu
    split at h
    · rename_i hc
      subst hc
      injection h with h; subst h
      cases r
      exact ⟨_, [], hu, .inl ⟨_, rfl⟩, rfl, fun w2 _ => rfl, by simp, by simp, fun j hj => by simp at hj⟩
    · cases h
  · rename_i s hu
    split at h
    · rename_i he hs1
      injection h with h; subst h
      obtain rfl := str_inv r
      obtain rfl : sz = 1 := by rw [hs] at hs1; exact Option.some.inj hs1
      have hfl : ∀ l : List UInt8, flat (l.map fun b => AV.int .u8 b.toNat) = l.map fun b => AV.int .u8 b.toNat := by
        intro l
        induction l with
        | nil => rfl
        | cons b r ih => simp only [flat, List.map_cons, List.flatMap_cons] at ih ⊢; rw [ih]; rfl
      refine ⟨.string, Lib.strCells ⟨⟨s⟩⟩, hu, .inr rfl, ?_, ?_, ?_, ?_, ?_⟩
      · simp [Builtin.lenOf, ByteArray.size]
      · intro w2 _
        have := Lib.run_firstCells_string (P := P) w2 1 ⟨⟨s⟩⟩
        simpa [ByteArray.size] using this
      · simp [Lib.strCells]
      · intro x hx
        obtain ⟨b, _, rfl⟩ := List.mem_map.1 hx
        rfl
      · intro j hj
        have hj' : j < s.length := by simpa [Lib.strCells] using hj
        rw [hfl]
        simp only [Lib.strCells, List.getD_eq_getElem?_getD, List.getElem?_map, List.getElem?_eq_getElem hj', Option.map_some, Option.getD_some]
        exact ⟨.int _ _, rfl⟩
    · cases h
  · cases h

theorem take_getD (cur : Array Value) (k j : Nat) (cells : List Value) (h : cur.toList.take k = cells) (hj : j < k) (hk : k ≤ cur.size) : cells.getD j undef = cur.getD j undef := by
  subst h
  simp only [List.getD_eq_getElem?_getD, List.getElem?_take, if_pos hj, Array.getElem?_toList, Array.getD_eq_getD_getElem?]

def Gh.put (G : Gh) (b n : Nat) (l : Loc) : Gh := { G with lim := upd G.lim b n, owner := upd G.owner b (some l) }

/-- 'append': whatever arm Go takes, the new list is the old one and what came behind it; nothing that is read has turned. -/
theorem append_sound {G : Gh} (g : GOk G w) {ts tx ty e : TypeId} {y : AV} {v u : Value} {xs ys : List AV} {i : TypeInfo} {z : List AV} {l : Loc} (hts : P.underlying ts = some (.slice e)) (hi : P.info? e = some i) (hz0 : zeroT P e = some z) (hzl : z.length = i.size)
    (ht : tailA P e ts tx y = some ys) (ry : Rep P (G.mem w) y u) (hp : 0 < i.size) (h63 : xs.length + ys.length ≤ 140737488355328) (hby : (xs.length + ys.length) * i.bytes ≤ 140737488355328)
    {cells : List Value} (hown : RowF w e i.size v xs.length cells) (hol : ∀ b, v.ownBlock = some b → G.owner b = some l ∧ G.lim b = xs.length * i.size)
    (hall : ∀ x ∈ xs, x.cells.length = i.size) (hrep : ∀ j, j < cells.length → Rep P (G.mem w) ((flat xs).getD j .undef) (cells.getD j undef) ∧ (cells.getD j undef).oneCell' = true) :
    ∃ v' w' G', (Builtin.append_ #[ts, tx] ty #[v, u]).run P w = .ok v' w' ∧ Ext G w G' w' ∧ GOk G' w' ∧ Rep P (G'.mem w') (.lst e (xs ++ ys) []) v' ∧ OwnAt P G' w' l (.lst e (xs ++ ys) []) v' ∧
      (∀ b, b < w.heap.size → some b ≠ v.ownBlock → w'.heap[b]? = w.heap[b]?) ∧ G'.f = G.f ∧ G'.bs = G.bs ∧ (∀ b, G.owner b ≠ some l → b < w.heap.size → G'.owner b = G.owner b ∧ G'.lim b = G.lim b) := by
  have hs : sizeT P e = some i.size := by simp [sizeT, hi]
  obtain ⟨du, news, hu, hdu, hlen, hfc, hnl, hally, hnr⟩ := tail_cells rfl ht ry hts hs hp
  obtain ⟨zv, hzr, hzc⟩ := zero_sound (M := G.mem w) (w := w) hz0
  have hzz : i.zero = some zv := by
    simp only [zeroValue, Sem.run_bind, run_typeInfo' hi, Result.andThen_ok] at hzr
    cases hiz : i.zero with
    | none => rw [hiz] at hzr; simp at hzr
    | some q => rw [hiz] at hzr; simp at hzr; rw [hzr]
  have hall2 : ∀ x ∈ xs ++ ys, x.cells.length = i.size := by
    intro x hx; rcases List.mem_append.1 hx with h | h; exact hall x h; exact hally x h
  have hcl : cells.length = xs.length * i.size := hown.1
  have hfx := flat_len _ hall
  have hfy := flat_len _ hally
  have hone : ∀ u ∈ news, u.oneCell' = true := by
    intro q hq
    obtain ⟨j, hj, rfl⟩ := List.mem_iff_getElem.1 hq
    have := (hnr j hj).2
    simpa [List.getD_eq_getElem?_getD, List.getElem?_eq_getElem hj] using this
  -- the cells of the whole
  have hcat : ∀ j, j < (xs.length + ys.length) * i.size → Rep P (G.mem w) ((flat (xs ++ ys)).getD j .undef) ((cells ++ news).getD j undef) ∧ ((cells ++ news).getD j undef).oneCell' = true := by
    intro j hj
    rw [flat_append]
    simp only [List.getD_eq_getElem?_getD] at *
    rw [Nat.add_mul] at hj
    by_cases hlt : j < xs.length * i.size
    · rw [List.getElem?_append_left (by omega), List.getElem?_append_left (by omega)]
      exact hrep j (by omega)
    · rw [List.getElem?_append_right (by omega), List.getElem?_append_right (by omega), hfx, hcl]
      exact hnr (j - xs.length * i.size) (by omega)
  have newDone : ∀ (cs : Array Value) (cap : Nat) (w' : World), w' = w.drew.alloc (.cells cs e) → xs.length + ys.length ≤ cap → cap ≤ maxLen → cs.size = cap * i.size → (∀ j, j < (xs.length + ys.length) * i.size → cs.getD j undef = (cells ++ news).getD j undef) →
      Ext G w (G.list w.heap.size ((xs ++ ys).length * i.size) (some l)) w' ∧ GOk (G.list w.heap.size ((xs ++ ys).length * i.size) (some l)) w' ∧ Rep P ((G.list w.heap.size ((xs ++ ys).length * i.size) (some l)).mem w') (.lst e (xs ++ ys) []) (.slice (some ⟨w.heap.size, 0, none⟩) (xs ++ ys).length cap) ∧
      OwnAt P (G.list w.heap.size ((xs ++ ys).length * i.size) (some l)) w' l (.lst e (xs ++ ys) []) (.slice (some ⟨w.heap.size, 0, none⟩) (xs ++ ys).length cap) ∧
      (∀ b, b < w.heap.size → some b ≠ v.ownBlock → w'.heap[b]? = w.heap[b]?) := by
    intro cs cap w' hw' hc1 hc2 hcs hget
    have hbel : Below w.heap.size w w' := by rw [hw']; exact ((Below.refl _ _).drew).alloc (Nat.le_refl _) _
    have hnew : w'.heap[w.heap.size]? = some (.cells cs e (0, 0)) := by rw [hw']; exact heap_alloc_new w.drew _
    have hsz' : w.heap.size < w'.heap.size := by rw [hw']; simp
    refine ⟨(list_grow g hbel _ _).ext g, list_gok g hbel hsz' _ _, ?_, ?_, fun b hb _ => hbel.block b hb⟩
    · refine list_rep g hbel hnew _ hs hp hall2 (by rw [List.length_append]; exact hc1) ?_
      intro j hj
      rw [flat_len _ hall2, List.length_append] at hj
      have h1 := Nat.mul_le_mul_right i.size hc1
      rw [hget j hj]
      exact ⟨by omega, (hcat j hj).1, (hcat j hj).2⟩
    · exact own_new g hbel (.inl rfl) hnew hs hp (by rw [List.length_append]; exact hc1) hc2 hcs
  have big1 : ∀ C, xs.length + ys.length ≤ C → (cells ++ news ++ (Builtin.zeroCells zv.cells (C - (xs.length + ys.length))).toList).toArray.size = C * i.size := by
    intro C hC
    have hzs : zv.cells.size = i.size := by rw [hzc.size, hzl]
    simp only [List.size_toArray, List.length_append, Array.length_toList, size_zeroCells, hzs, hcl, hnl, ← Nat.add_mul]
    congr 1; omega
  have big2 : ∀ C j, j < (xs.length + ys.length) * i.size → (cells ++ news ++ (Builtin.zeroCells zv.cells (C - (xs.length + ys.length))).toList).toArray.getD j undef = (cells ++ news).getD j undef := by
    intro C j hj
    have : j < (cells ++ news).length := by rw [List.length_append, hcl, hnl, ← Nat.add_mul]; exact hj
    simp only [Array.getD_eq_getD_getElem?, List.getElem?_toArray, List.getD_eq_getElem?_getD]
    rw [List.getElem?_append_left this]
  rcases hown.2 with ⟨hv, hn0⟩ | ⟨b, cap, cur, hv, _, ⟨fr, hb, hfr⟩, hnc, hcm, hcs, htake⟩
  · -- nil
    obtain rfl : xs = [] := List.eq_nil_of_length_eq_zero hn0
    subst hv
    by_cases h0 : ys = []
    · subst h0
      refine ⟨.slice none 0 0, w, G, app_none hts hu hdu hi hlen (hfc w rfl), Ext.refl _ _, g, ?_, ?_, fun _ _ _ => rfl, rfl, rfl, fun _ _ _ => ⟨rfl, rfl⟩⟩
      · exact .lst e [] [] none 0 i.size 0 0 (fun _ => undef) hs hp (by simp) (by simp) (fun h => absurd rfl h) (fun j hj => by simp [flat] at hj) (fun j hj => by simp [flat] at hj) (fun j hj => by simp [flat] at hj)
      · intro e' xs' hx
        injection hx with q1 q2 _
        subst q1; subst q2
        exact ⟨i.size, [], hs, hp, RowF.nil w _ i.size, fun b hb => by simp [Value.ownBlock] at hb⟩
    · have hpos : 0 < ys.length := by cases ys with
        | nil => exact absurd rfl h0
        | cons _ _ => simp
      have hc0 : cells = [] := List.eq_nil_of_length_eq_zero (by simpa using hcl)
      have hrun := app_grow (ty := ty) hts hu hdu hi hzz (a := none) (n := ([] : List AV).length) (cap := 0) (olds := cells) hlen (hfc w.drew rfl) (by rw [hc0]; rfl) (by simpa using hpos) h63 hby
      have hge := grownCap_ge w (([] : List AV).length + ys.length) 0 e
      have hcm := grownCap_le_maxLen w (([] : List AV).length + ys.length) 0 e (by unfold maxLen; omega)
      obtain ⟨d1, d2, d3, d4, d5⟩ := newDone _ (grownCap w (([] : List AV).length + ys.length) 0 e) _ rfl hge hcm (big1 _ hge) (big2 _)
      rw [List.length_append] at d1 d2 d3 d4
      exact ⟨_, _, _, hrun, d1, d2, d3, d4, d5, rfl, rfl, fun b ho hb => ⟨upd_ne _ _ (by omega), upd_ne _ _ (by omega)⟩⟩
  · subst hv
    obtain ⟨ho, hl⟩ := hol b rfl
    have hblt : b < w.heap.size := (Array.getElem?_eq_some_iff.1 hb).1
    have hfo : ∀ w2 : World, w2.heap = w.heap → (Builtin.firstCells i.size xs.length (.slice (some ⟨b, 0, none⟩) xs.length cap)).run P w2 = .ok cells.toArray w2 := by
      intro w2 hw2
      refine run_firstCells_some w2 i.size xs.length _ _ _ cells hcl ?_
      intro j q hq
      have := hown.cells (g := b) rfl j q hq
      rw [add_addr, Nat.zero_add]
      unfold World.cell? at this ⊢
      rw [hw2]; exact this
    by_cases hroom : xs.length + ys.length ≤ cap
    · have hle : (xs.length + ys.length) * i.size ≤ cap * i.size := Nat.mul_le_mul_right _ hroom
      have hfit : xs.length * i.size + news.length ≤ cur.size := by rw [hnl, ← Nat.add_mul, hcs]; exact hle
      have hrun := app_room (ty := ty) hts hu hdu hi (n := xs.length) hfr hb hlen (hfc w rfl) hone hroom hfit
      obtain ⟨cs', hcs'⟩ : ∃ cs', cs' = (cur.toList.take (xs.length * i.size) ++ news ++ cur.toList.drop (xs.length * i.size + news.length)).toArray := ⟨_, rfl⟩
      rw [← hcs'] at hrun
      have hsz' : cs'.size = cap * i.size := by
        rw [hcs']
        simp only [List.size_toArray, List.length_append, List.length_take, List.length_drop, Array.length_toList, hcs] at hfit ⊢
        omega
      have hget : ∀ j, j < (xs.length + ys.length) * i.size → cs'[j]? = some ((cells ++ news).getD j undef) := by
        intro j hj
        have hj' : j < (cells ++ news).length := by rw [List.length_append, hcl, hnl, ← Nat.add_mul]; exact hj
        rw [hcs', htake]
        rw [List.getElem?_toArray, List.getElem?_append_left hj', List.getD_eq_getElem?_getD, List.getElem?_eq_getElem hj']; rfl
      have hnew := setRow_heap w b cur cs' e fr hb
      have hfr' : frOk cs'.size fr := by rw [hsz', ← hcs]; exact hfr
      have hoth : ∀ k, k ≠ b → (w.setRow b cs').heap[k]? = w.heap[k]? := fun k hk => setRow_other w b k cs' hk
      have hext : Ext G w (G.put b ((xs.length + ys.length) * i.size) l) (w.setRow b cs') := by
        refine ⟨rfl, rfl, rfl, by simp, ?_, fun _ _ h => h, fun _ => Nat.le_refl _, ?_, rfl⟩
        · intro k o q hq
          by_cases hk : k = b
          · subst hk
            have hlo : o < xs.length * i.size := by
              unfold pmOf at hq; split at hq
              · rename_i h; rw [hl] at h; exact h
              · cases hq
            have hold := pm_cell hq
            have hlo' : o < cur.size := by omega
            have e1 : w.cell? ⟨k, o, none⟩ = some cur[o] := by simp [World.cell?, hb, hlo']
            rw [e1] at hold; injection hold with hold
            unfold pmOf
            have hlim : (G.put k ((xs.length + ys.length) * i.size) l).lim k = (xs.length + ys.length) * i.size := upd_same _ _ _
            rw [hlim, if_pos (by rw [Nat.add_mul]; omega)]
            have e2 : (w.setRow k cs').cell? ⟨k, o, none⟩ = cs'[o]? := by simp [World.cell?, hnew]
            rw [e2, hget o (by rw [Nat.add_mul]; omega), ← hold]
            have e3 := take_getD cur (xs.length * i.size) o cells htake hlo (by omega)
            simp only [List.getD_eq_getElem?_getD] at e3 ⊢
            rw [List.getElem?_append_left (by omega), e3]
            simp [Array.getD_eq_getD_getElem?, hlo']
          · unfold pmOf at hq ⊢
            have hlim : (G.put b ((xs.length + ys.length) * i.size) l).lim k = G.lim k := upd_ne _ _ hk
            rw [hlim]
            split at hq
            · rename_i h
              rw [if_pos h, World.cell?_of_block (hoth k hk)]; exact hq
            · cases hq
        · intro k hk hf
          have hkb : k ≠ b := by rintro rfl; exact hf (.inr (by rw [ho]; rfl))
          refine ⟨hoth k hkb, upd_ne _ _ hkb, ?_, fun _ h => h⟩
          rintro (⟨h, hl⟩ | h)
          · refine hf (.inl ⟨h, ?_⟩)
            change upd G.lim b _ k = 0 at hl
            rw [upd_ne _ _ hkb] at hl; exact hl
          · refine hf (.inr ?_)
            change (upd G.owner b (some l) k).isSome = true at h
            rw [upd_ne _ _ hkb] at h; exact h
      have hgok : GOk (G.put b ((xs.length + ys.length) * i.size) l) (w.setRow b cs') := by
        refine ⟨?_, ?_, hext.held g.held⟩
        · intro id k hid
          obtain ⟨q1, q3⟩ := g.fin id k hid
          have hkb : k ≠ b := by rintro rfl; rw [ho] at q3; cases q3
          exact ⟨by simpa using q1, (upd_ne _ _ hkb).trans q3⟩
        · intro k hk
          simp only [setRow_size] at hk
          obtain ⟨q1, q2, q3⟩ := g.new k hk
          have hkb : k ≠ b := by omega
          exact ⟨(upd_ne _ _ hkb).trans q1, (upd_ne _ _ hkb).trans q2, q3⟩
      refine ⟨_, _, G.put b ((xs.length + ys.length) * i.size) l, hrun, hext, hgok, ?_, ?_, ?_, rfl, rfl, ?_⟩
      · have := Rep.lst (P := P) (M := (G.put b ((xs.length + ys.length) * i.size) l).mem (w.setRow b cs')) e (xs ++ ys) [] (some ⟨b, 0, none⟩) cap i.size b 0 (fun j => (cells ++ news).getD j undef) hs hp (by simpa using hall2) (by simpa using hroom) (fun _ => rfl)
          (by
            intro j hj
            rw [List.append_nil, flat_len _ hall2, List.length_append] at hj
            show pmOf _ _ _ _ = _
            unfold pmOf
            have hlim : (G.put b ((xs.length + ys.length) * i.size) l).lim b = (xs.length + ys.length) * i.size := upd_same _ _ _
            rw [hlim, Nat.zero_add, if_pos hj]
            have e2 : (w.setRow b cs').cell? ⟨b, j, none⟩ = cs'[j]? := by simp [World.cell?, hnew]
            rw [e2, hget j hj])
          (by
            intro j hj
            rw [List.append_nil, flat_len _ hall2, List.length_append] at hj
            rw [List.append_nil]
            exact hext.rep (hcat j hj).1)
          (by
            intro j hj
            rw [List.append_nil, flat_len _ hall2, List.length_append] at hj
            exact (hcat j hj).2)
        rw [List.length_append] at this
        exact this
      · intro e' xs' hx
        injection hx with q1 q2 _
        subst q1; subst q2
        refine ⟨i.size, cells ++ news, hs, hp, ⟨by rw [List.length_append, hcl, hnl, List.length_append, Nat.add_mul], .inr ⟨b, cap, cs', by rw [List.length_append], Nat.zero_le _, ⟨fr, hnew, hfr'⟩, by rw [List.length_append]; exact hroom, hcm, hsz', ?_⟩⟩, ?_⟩
        · rw [hcs', htake, List.length_append, Nat.add_mul, ← hcl, ← hnl, ← List.length_append]
          exact List.take_left
        · intro k hk
          have : b = k := by simpa [Value.ownBlock] using hk
          subst this
          rw [List.length_append]
          exact ⟨upd_same _ _ _, upd_same _ _ _⟩
      · intro k hk hne
        exact hoth k (by rintro rfl; exact hne rfl)
      · intro k hk hlt
        have hkb : k ≠ b := by rintro rfl; exact hk ho
        exact ⟨upd_ne _ _ hkb, upd_ne _ _ hkb⟩
    · have hrun := app_grow (ty := ty) hts hu hdu hi hzz (a := some ⟨b, 0, none⟩) (n := xs.length) (cap := cap) (olds := cells) hlen (hfc w.drew rfl) (hfo w.drew rfl) (by omega) h63 hby
      have hge := grownCap_ge w (xs.length + ys.length) cap e
      have hcm' := grownCap_le_maxLen w (xs.length + ys.length) cap e (by unfold maxLen; omega)
      obtain ⟨d1, d2, d3, d4, d5⟩ := newDone _ (grownCap w (xs.length + ys.length) cap e) _ rfl hge hcm' (big1 _ hge) (big2 _)
      rw [List.length_append] at d1 d2 d3 d4
      exact ⟨_, _, _, hrun, d1, d2, d3, d4, d5, rfl, rfl, fun k ho' hk => ⟨upd_ne _ _ (by omega), upd_ne _ _ (by omega)⟩⟩

/-- Another's end, behind a step that turned nothing but one row. -/
theorem own_other {G G' : Gh} {w' : World} {l m : Loc} {vb : Option Nat} (hm : m ≠ l) (hvb : ∀ b, vb = some b → G.owner b = some l) (hext : Ext G w G' w') (hblk : ∀ b, b < w.heap.size → some b ≠ vb → w'.heap[b]? = w.heap[b]?)
    (hoo : ∀ b, G.owner b ≠ some l → b < w.heap.size → G'.owner b = G.owner b ∧ G'.lim b = G.lim b) {x : AV} {v : Value} (r : OwnAt P G w m x v) : OwnAt P G' w' m x v := by
  intro e xs hx
  obtain ⟨sz, cells, h1, h2, h3, h4⟩ := r e xs hx
  have hne : ∀ q, v.ownBlock = some q → some q ≠ vb := by
    intro q hq e
    have e1 := (h4 q hq).1
    rw [hvb q e.symm] at e1
    injection e1 with e1
    exact hm e1.symm
  refine ⟨sz, cells, h1, h2, h3.kept ⟨hext.os, hext.tape, hext.output, hext.size, hblk⟩ (row := vb) ?_, ?_⟩
  · cases hv : v.ownBlock with
    | none => exact .inl rfl
    | some q => exact .inr (hne q hv)
  · intro q hq
    have hlt : q < w.heap.size := by
      rcases h3.2 with ⟨rfl, _⟩ | ⟨g', cap, cur, rfl, _, ⟨fr, hh, _⟩, _⟩
      · simp [Value.ownBlock] at hq
      · have : g' = q := by simpa [Value.ownBlock] using hq
        subst this
        exact (Array.getElem?_eq_some_iff.1 hh).1
    have h5 := h4 q hq
    obtain ⟨a1, a2⟩ := hoo q (by rw [h5.1]; intro e; injection e with e; exact hm e) hlt
    exact ⟨a1.trans h5.1, a2.trans h5.2⟩
theorem heap_other {G G' : Gh} {w' : World} {l : Loc} {vb : Option Nat} {H : List (Option Blk)} (g : GOk G w) (hvb : ∀ b, vb = some b → G.owner b = some l) (hext : Ext G w G' w') (hblk : ∀ b, b < w.heap.size → some b ≠ vb → w'.heap[b]? = w.heap[b]?)
    (hf : G'.f = G.f) (hbs : G'.bs = G.bs) (hoo : ∀ b, G.owner b ≠ some l → b < w.heap.size → G'.owner b = G.owner b ∧ G'.lim b = G.lim b) (r : HeapRel P G H w) : HeapRel P G' H w' where
  dom := fun id b e => r.dom id b (by rw [← hf]; exact e)
  blk := fun id b k e hk => by
    rw [hf] at e
    obtain ⟨q1, q3⟩ := g.fin id b e
    have hne : some b ≠ vb := by intro e'; have := hvb b e'.symm; rw [q3] at this; cases this
    exact (r.blk id b k e hk).to (hblk b q1 hne) (by show G'.bs b = G.bs b; rw [hbs]) hext.mem
  inj := fun i j b k l' h1 h2 => r.inj i j b k l' (by rw [← hf]; exact h1) (by rw [← hf]; exact h2)
  lim := fun id b k e hk hn hz => by
    rw [hf] at e
    obtain ⟨q1, q3⟩ := g.fin id b e
    rw [(hoo b (by rw [q3]; intro e; cases e) q1).2]
    exact r.lim id b k e hk hn hz

/-- 'append' as an operation: what it leaves. -/
theorem done_append {G G' : Gh} {w' : World} {env : List (Nat × AV)} {H : List (Option Blk)} {own : List Loc} {tt : Nat → Value} {d : Nat} {vb : Option Nat} (g : GOk G w) (hH : HeapRel P G H w) (hvb : ∀ b, vb = some b → G.owner b = some (.slot d)) (hext : Ext G w G' w') (hgok : GOk G' w')
    (hblk : ∀ b, b < w.heap.size → some b ≠ vb → w'.heap[b]? = w.heap[b]?) (hf : G'.f = G.f) (hbs : G'.bs = G.bs) (hoo : ∀ b, G.owner b ≠ some (.slot d) → b < w.heap.size → G'.owner b = G.owner b ∧ G'.lim b = G.lim b) {x : AV} {v : Value} (hrep : Rep P (G'.mem w') x v) (hown : OwnAt P G' w' (.slot d) x v)
    (hs : ∀ s, s ≠ d → Loc.slot s ∈ own → OwnAt P G w (.slot s) (look env s) (tt s))
    (hc : ∀ id off b k cs, Loc.cell id off ∈ own → G.f id = some b → H[id]? = some (some k) → w.heap[b]? = some (.cells cs k.e (0, 0)) → OwnAt P G w (.cell id off) (k.cs.getD off .undef) (cs.getD off undef))
    (hdom : ∀ id off, Loc.cell id off ∈ own → Mapped G H id) : Done P G w env tt ⟨x, H, own, true⟩ d v w' G' where
  ext := hext
  ok := hgok
  heap := heap_other g hvb hext hblk hf hbs hoo hH
  rep := hrep
  slot := fun s hsd hm => own_other (by intro e; injection e with e; exact hsd e) hvb hext hblk hoo (hs s hsd hm)
  cell := fun id off b k cs hm hf' hk hb => by
    rw [hf] at hf'
    obtain ⟨q1, q3⟩ := g.fin id b hf'
    have hne : some b ≠ vb := by intro e'; have := hvb b e'.symm; rw [q3] at this; cases this
    rw [hblk b q1 hne] at hb
    exact own_other (by intro e; cases e) hvb hext hblk hoo (hc id off b k cs hm hf' hk hb)
  gives := fun _ => hown
  dom := fun i off hm => (hdom i off hm).mono hext.f

end
end Go.Proofs.YtomheegfobcijaaGreatDoor.Am

/- The abstract machine is right, eleventh part: stores. -/
namespace Go.Proofs.YtomheegfobcijaaGreatDoor.Am
set_option linter.unusedVariables false
set_option linter.unusedSimpArgs false
open Go.RowKit

section
variable {P : Program} {w : World}

/-- A block of the machine's is written: all else stays. -/
theorem store_ext {G : Gh} (g : GOk G w) {id b : Nat} (hf : G.f id = some b) (hlo : G.lo ≤ id) (hl : G.lim b = 0) (cs : Array Value) : Ext G w G (w.setRow b cs) where
  os := rfl
  tape := rfl
  output := rfl
  size := by simp
  prot := by
    intro k o q hq
    have hk : k ≠ b := by
      rintro rfl
      unfold pmOf at hq
      rw [hl] at hq
      simp at hq
    unfold pmOf at hq ⊢
    split at hq
    · rename_i h; rw [if_pos h, World.cell?_of_block (setRow_other w b k cs hk)]; exact hq
    · cases hq
  f := fun _ _ h => h
  bs := fun _ => Nat.le_refl _
  foreign := by
    intro k hk hn
    have hkb : k ≠ b := by rintro rfl; exact hn (.inl ⟨⟨id, hlo, hf⟩, hl⟩)
    exact ⟨setRow_other w b k cs hkb, rfl, hn, fun _ h => h⟩
theorem store_gok {G : Gh} (g : GOk G w) (b : Nat) (cs : Array Value) (hx : Ext G w G (w.setRow b cs)) : GOk G (w.setRow b cs) where
  fin := fun id k h => by simpa using g.fin id k h
  new := fun k hk => g.new k (by simpa using hk)
  held := hx.held g.held

theorem own_setRow {G : Gh} (g : GOk G w) {id b : Nat} (hf : G.f id = some b) (es : Array Value) (l : Loc) (y : AV) (u : Value) (r : OwnAt P G w l y u) : OwnAt P G (w.setRow b es) l y u := by
  intro e xs hx
  obtain ⟨sz, cells, h1, h2, h3, h4⟩ := r e xs hx
  refine ⟨sz, cells, h1, h2, h3.kept ⟨rfl, rfl, rfl, by simp, fun i _ hi => setRow_other w b i es (fun e => hi (by rw [e]))⟩ (row := some b) ?_, h4⟩
  cases hu : u.ownBlock with
  | none => exact .inl rfl
  | some q =>
    refine .inr ?_
    intro e
    injection e with e
    subst e
    have := (h4 q hu).1
    rw [(g.fin id q hf).2] at this
    cases this
theorem splice_cells {M : Mem} {cs : List AV} {ds : Array Value} (hsz : cs.length ≤ ds.size) (h : ∀ j, j < cs.length → Rep P M (cs.getD j .undef) (ds.getD j undef)) (h1 : ∀ j, j < cs.length → (ds.getD j undef).oneCell' = true)
    {xs : List AV} {us : Array Value} (hx : CellsRep P M xs us) (off : Nat) (hl : off + xs.length ≤ cs.length) :
    ∀ j, j < (splice cs off xs).length → Rep P M ((splice cs off xs).getD j .undef) (((ds.toList.take off ++ us.toList ++ ds.toList.drop (off + us.toList.length)).toArray).getD j undef) ∧
      (((ds.toList.take off ++ us.toList ++ ds.toList.drop (off + us.toList.length)).toArray).getD j undef).oneCell' = true := by
  intro j hj
  rw [length_splice _ _ _ hl] at hj
  have hus : us.toList.length = xs.length := by rw [Array.length_toList, hx.size]
  have key : ((ds.toList.take off ++ us.toList ++ ds.toList.drop (off + us.toList.length)).toArray).getD j undef = if off ≤ j ∧ j < off + xs.length then us.getD (j - off) undef else ds.getD j undef := by
    have ht : (ds.toList.take off).length = off := by simp; omega
    simp only [Array.getD_eq_getD_getElem?, List.getElem?_toArray]
    by_cases h2 : j < off
    · rw [List.append_assoc, List.getElem?_append_left (by omega), List.getElem?_take, if_pos h2, if_neg (by omega), Array.getElem?_toList]
    · by_cases h3 : j < off + xs.length
      · rw [List.append_assoc, List.getElem?_append_right (by omega), List.getElem?_append_left (by omega), ht, if_pos (by omega), Array.getElem?_toList]
      · rw [List.getElem?_append_right (by rw [List.length_append]; omega), if_neg (by omega), List.length_append, ht, List.getElem?_drop, Array.getElem?_toList]
        congr 2; omega
  rw [key, getD_splice _ _ _ _ hl]
  by_cases hin : off ≤ j ∧ j < off + xs.length
  · rw [if_pos hin, if_pos hin]; exact ⟨hx.at_ _ (by omega), hx.one _ (by omega)⟩
  · rw [if_neg hin, if_neg hin]; exact ⟨h j hj, h1 j hj⟩

theorem mem_dropCells {own : List Loc} {id off n : Nat} {l : Loc} (h : l ∈ dropCells own id off n) : l ∈ own ∧ ∀ i o, l = .cell i o → i = id → ¬ (off ≤ o ∧ o < off + n) := by
  unfold dropCells at h
  rw [List.mem_filter] at h
  refine ⟨h.1, ?_⟩
  rintro i o rfl rfl ⟨h1, h2⟩
  have h3 := h.2
  have e1 : Nat.ble off o = true := Nat.ble_eq_true_of_le h1
  have e2 : Nat.blt o (off + n) = true := (by rw [Nat.blt_eq]; exact h2)
  have e3 : Nat.beq i i = true := Nat.beq_refl i
  simp only [e1, e2, e3] at h3
  cases h3

theorem one_cells {x : AV} (h : x.isOne = true) : x.cells = [x] := by cases x <;> simp [AV.isOne] at h <;> rfl
theorem one_cells_val {M : Mem} {x : AV} {v : Value} (h : x.isOne = true) (r : Rep P M x v) : v.cells = #[v] := by
  cases r <;> simp [AV.isOne] at h <;> rfl

/-- A store, all of it. -/
theorem store_sound {G : Gh} {env : List (Nat × AV)} {H H' : List (Option Blk)} {own : List Loc} {tt : Nat → Value} (g : GOk G w) (hH : HeapRel P G H w) (ow : Owns P G env H own tt w) {t : TypeId} {id off : Nat} {x : AV} {p v : Value} {xo : Operand} {d : Nat}
    (h : storeA P H t (.ptr id off) x = some H') (hlo : G.lo ≤ id) (rp : Rep P (G.mem w) (.ptr id off) p) (rx : Rep P (G.mem w) x v) (hxo : ∀ s, xo = .tmp s → x = look env s ∧ v = tt s) :
    ∃ w' G', (Instr.storeAt t p v).run P w = .ok () w' ∧ Done P G w env tt ⟨.tup [], H',
      (match xo with
       | .tmp s => cond (owns own (.slot s) && x.isOne) (give (drop (dropCells own id off x.cells.length) (.slot s)) (.cell id off)) (dropCells own id off x.cells.length)
       | _ => dropCells own id off x.cells.length), false⟩ d undef w' G' := by
  unfold storeA at h
  split at h
  case h_2 => cases h
  rename_i id' off' n hid hs
  injection hid with hid hoff
  subst hid; subst hoff
  split at h
  case h_2 => cases h
  rename_i k hk
  split at h
  case isFalse => cases h
  rename_i hc
  obtain ⟨hke, c1, c2, c3⟩ := hc
  injection h with h; subst h
  cases rp with
  | ptr _ _ b hf =>
    change G.f id = some b at hf
    obtain ⟨ds, hd, hsz, hbs, hrep, hone⟩ := (hH.blk id b k hf hk).1 hke
    have hxc := cells_of rx (by omega)
    have husz : v.cells.toList.length = n := by rw [Array.length_toList, hxc.size, c1]
    have hlt : id < H.length := (hH.dom id b hf).lt
    obtain ⟨es, hes⟩ : ∃ es, es = (ds.toList.take off ++ v.cells.toList ++ ds.toList.drop (off + v.cells.toList.length)).toArray := ⟨_, rfl⟩
    have hess : es.size = ds.size := by
      rw [hes]; simp only [List.size_toArray, List.length_append, List.length_take, List.length_drop, Array.length_toList] at husz ⊢; omega
    have hrun : (Instr.storeAt t (.pointer (some ⟨b, off, none⟩)) v).run P w = .ok () (w.setRow b es) := by
      have hone' : ∀ u ∈ v.cells.toList, u.oneCell' = true := by
        intro u hu
        obtain ⟨j, hj, rfl⟩ := List.mem_iff_getElem.1 hu
        have := hxc.one j (by rw [c1, ← husz]; exact hj)
        simp only [Array.length_toList] at hj
        simpa [Array.getD_eq_getD_getElem?, hj] using this
      have hst := run_storeCells_at P b off k.e v.cells.toList 0 ds w hd (by rw [husz]; omega) hone'
      simp only [Nat.add_zero] at hst
      rw [hes]
      have hvs : ¬ (v.cells.size ≠ n) := by rw [hxc.size, c1]; simp
      simp only [Instr.storeAt, Instr.sureAddr, storeVar, Sem.run_bind, Sem.run_pure, Result.andThen_ok, run_sizeT hs, if_neg hvs, hst]
    have hkne : k.cs ≠ [] := by intro e; rw [e] at c3; simp only [List.length_nil] at c3; omega
    have hext := store_ext g hf hlo (hH.lim id b k hf hk hkne (fz_cells hke)) es
    have hgok := store_gok g b es hext
    have hnew : (w.setRow b es).heap[b]? = some (.cells es k.e (0, 0)) := setRow_heap w b ds es k.e (0, 0) hd
    have hoth : ∀ q, q ≠ b → (w.setRow b es).heap[q]? = w.heap[q]? := fun q hq => setRow_other w b q es hq
    have hsame : H[id]? = some (some k) := hk
    have hset : ∀ j q, (H.set id (some ⟨k.e, splice k.cs off x.cells⟩))[j]? = some (some q) → (j = id ∧ q = ⟨k.e, splice k.cs off x.cells⟩) ∨ (j ≠ id ∧ H[j]? = some (some q)) := by
      intro j q hj
      by_cases hji : j = id
      · subst hji
        rw [List.getElem?_set_self hlt] at hj
        injection hj with hj; injection hj with hj
        exact .inl ⟨rfl, hj.symm⟩
      · rw [List.getElem?_set_ne (fun e => hji e.symm)] at hj
        exact .inr ⟨hji, hj⟩
    have hinjb : ∀ j q k', G.f j = some q → H[j]? = some (some k') → j ≠ id → k'.cs ≠ [] → q ≠ b := by
      intro j q k' hj hk' hne hn e
      subst e
      exact hne (hH.inj j id q k' k hj hf hk' hk hn hkne)
    have hheap : HeapRel P G (H.set id (some ⟨k.e, splice k.cs off x.cells⟩)) (w.setRow b es) := by
      refine ⟨?_, ?_, ?_, ?_⟩
      · intro j q hj; exact (hH.dom j q hj).set _ _
      · intro j q k' hj hk'
        rcases hset j k' hk' with ⟨rfl, rfl⟩ | ⟨hne, hk'⟩
        · rw [hf] at hj; injection hj with hj; subst hj
          have hsp := splice_cells hsz hrep hone hxc off (by omega)
          refine BlkAt.cells ⟨es, hnew, ?_, ?_, ?_, ?_⟩ hke
          · rw [length_splice _ _ _ (by omega), hess]; exact hsz
          · rw [hess]; exact hbs
          · intro j' hj'; rw [← hes] at hsp; exact hext.rep (hsp j' hj').1
          · intro j' hj'; rw [← hes] at hsp; exact (hsp j' hj').2
        · have hB := hH.blk j q k' hj hk'
          by_cases hqb : q = b
          · subst hqb
            have hn : k'.cs = [] := by
              rcases List.eq_nil_or_concat k'.cs with h | ⟨_, _, h⟩
              · exact h
              · exact absurd rfl (hinjb j q k' hj hk' hne (by rw [h]; simp))
            have hke' : Nat.beq k'.e LOOP = false := hB.cs_nil hn
            obtain ⟨ds', q1, q2, q3, q4, q5⟩ := hB.1 hke'
            rw [hd] at q1; injection q1 with q1; injection q1 with q1 q6
            refine BlkAt.cells ⟨es, by rw [← q6]; exact hnew, by rw [hn]; exact Nat.zero_le _, by rw [hess]; exact hbs, fun j' hj' => ?_, fun j' hj' => ?_⟩ hke'
            · rw [hn] at hj'; exact absurd hj' (Nat.not_lt_zero _)
            · rw [hn] at hj'; exact absurd hj' (Nat.not_lt_zero _)
          · exact hB.to (hoth q hqb) rfl hext.mem
      · intro i j q k1 k2 h1 h2 h3 h4 n1 n2
        rcases hset i k1 h3 with ⟨q1, q2⟩ | ⟨hn1, q1⟩ <;> rcases hset j k2 h4 with ⟨q3, q4⟩ | ⟨hn2, q3⟩
        · rw [q1, q3]
        · exact hH.inj i j q k k2 h1 h2 (by rw [q1]; exact hk) q3 hkne n2
        · exact hH.inj i j q k1 k h1 h2 q1 (by rw [q3]; exact hk) n1 hkne
        · exact hH.inj i j q k1 k2 h1 h2 q1 q3 n1 n2
      · intro j q k' hj hk' hn
        rcases hset j k' hk' with ⟨rfl, _⟩ | ⟨_, hk'⟩
        · exact fun _ => hH.lim _ q k hj hk hkne (fz_cells hke)
        · exact hH.lim j q k' hj hk' hn
    -- an end that is kept
    have hkeep : ∀ (l : Loc) (y : AV) (u : Value), OwnAt P G w l y u → OwnAt P G (w.setRow b es) l y u := by
      intro l y u r e xs hx
      obtain ⟨sz, cells, h1, h2, h3, h4⟩ := r e xs hx
      refine ⟨sz, cells, h1, h2, h3.kept ⟨rfl, rfl, rfl, by simp, fun i _ hi => hoth i (fun e => hi (by rw [e]))⟩ (row := some b) ?_, h4⟩
      cases hu : u.ownBlock with
      | none => exact .inl rfl
      | some q =>
        refine .inr ?_
        intro e
        injection e with e
        subst e
        have := (h4 q hu).1
        rw [(g.fin id q hf).2] at this
        cases this
    have hcellkeep : ∀ id' off' b' k' cs', Loc.cell id' off' ∈ own → (id' = id → ¬ (off ≤ off' ∧ off' < off + x.cells.length)) → G.f id' = some b' → (H.set id (some ⟨k.e, splice k.cs off x.cells⟩))[id']? = some (some k') → (w.setRow b es).heap[b']? = some (.cells cs' k'.e (0, 0)) →
        OwnAt P G (w.setRow b es) (.cell id' off') (k'.cs.getD off' .undef) (cs'.getD off' undef) := by
      intro id' off' b' k' cs' hm hne hf' hk' hb'
      rcases hset id' k' hk' with ⟨rfl, rfl⟩ | ⟨hn, hk'⟩
      · rw [hf] at hf'; injection hf' with hf'; subst hf'
        have hne := hne rfl
        rw [hnew] at hb'; injection hb' with hb'; injection hb' with hb'; subst hb'
        have e1 : (splice k.cs off x.cells).getD off' .undef = k.cs.getD off' .undef := by rw [getD_splice _ _ _ _ (by omega), if_neg hne]
        have e2 : es.getD off' undef = ds.getD off' undef := by
          rw [hes]
          have ht : (ds.toList.take off).length = off := by simp; omega
          simp only [Array.getD_eq_getD_getElem?, List.getElem?_toArray]
          by_cases h2 : off' < off
          · rw [List.append_assoc, List.getElem?_append_left (by omega), List.getElem?_take, if_pos h2, Array.getElem?_toList]
          · rw [List.getElem?_append_right (by rw [List.length_append]; omega), List.length_append, ht, List.getElem?_drop, Array.getElem?_toList]
            congr 2; omega
        rw [e1, e2]
        exact hkeep _ _ _ (ow.cell id' off' b k ds hm hf hk hd)
      · by_cases hke : k'.cs = []
        · rw [hke]; intro e xs hx; cases hx
        have hqb := hinjb id' b' k' hf' hk' hn hke
        rw [hoth b' hqb] at hb'
        exact hkeep _ _ _ (ow.cell id' off' b' k' cs' hm hf' hk' hb')
    have base : Done P G w env tt ⟨.tup [], H.set id (some ⟨k.e, splice k.cs off x.cells⟩), dropCells own id off x.cells.length, false⟩ d undef (w.setRow b es) G :=
      ⟨hext, hgok, hheap, .tup [] #[] rfl (fun i hi => by simp at hi), fun s _ hs => hkeep _ _ _ (ow.slot s (mem_dropCells hs).1),
        fun id' off' b' k' cs' hc hf' hk' hb' => hcellkeep id' off' b' k' cs' (mem_dropCells hc).1 (fun e => (mem_dropCells hc).2 _ _ rfl e) hf' hk' hb', fun h => (by cases h),
        fun id' off' hm => (ow.dom id' off' (mem_dropCells hm).1).set _ _⟩
    cases xo with
    | tmp s =>
      obtain ⟨hxs, hvs⟩ := hxo s rfl
      by_cases hcond : (owns own (.slot s) && x.isOne) = true
      · simp only [hcond, cond_true]
        rw [Bool.and_eq_true, owns_iff] at hcond
        obtain ⟨hos, hx1⟩ := hcond
        have hn1 : n = 1 := by rw [← c1, one_cells hx1]; rfl
        refine ⟨w.setRow b es, G.ren (.slot s) (.cell id off), hrun, ?_⟩
        refine ⟨hext.trans (ren_ext G _ _), ren_gok hgok _ _, ren_heap hheap _ _, .tup [] #[] rfl (fun i hi => by simp at hi), ?_, ?_, fun h => (by cases h), ?_⟩
        · intro s' _ hs'
          rw [mem_give] at hs'
          rcases hs' with hs' | ⟨hs', _⟩
          · cases hs'
          · rw [mem_drop] at hs'
            exact ren_own_ne (hkeep _ _ _ (ow.slot s' (mem_dropCells hs'.1).1)) hs'.2 _
        · intro id' off' b' k' cs' hc hf' hk' hb'
          rw [mem_give] at hc
          rcases hc with hc | ⟨hc, hne⟩
          · injection hc with q1 q2
            subst q1; subst q2
            have hf'' : G.f id' = some b' := hf'
            rw [hf] at hf''; injection hf'' with hf''; subst hf''
            rcases hset id' k' hk' with ⟨_, rfl⟩ | ⟨hn, _⟩
            · rw [hnew] at hb'; injection hb' with hb'; injection hb' with hb'; subst hb'
              have e1 : (splice k.cs off' x.cells).getD off' .undef = x := by
                rw [getD_splice _ _ _ _ (by omega), if_pos (by omega), Nat.sub_self, one_cells hx1]; rfl
              have e2 : es.getD off' undef = v := by
                have hv1 := one_cells_val hx1 rx
                have ht : (ds.toList.take off').length = off' := by simp; omega
                rw [hes, hv1]
                simp only [Array.getD_eq_getD_getElem?, List.getElem?_toArray]
                rw [List.append_assoc, List.getElem?_append_right (by omega), ht, Nat.sub_self]
                rfl
              rw [e1, e2, hxs, hvs]
              exact ren_own (hkeep _ _ _ (ow.slot s hos)) _
            · exact absurd rfl hn
          · rw [mem_drop] at hc
            exact ren_own_ne (hcellkeep id' off' b' k' cs' (mem_dropCells hc.1).1 (fun e => (mem_dropCells hc.1).2 _ _ rfl e) hf' hk' hb') hc.2 _
        · intro id' off' hm
          rcases mem_give.1 hm with hm | ⟨hm, _⟩
          · injection hm with q1 _; rw [q1]; exact Mapped.set ⟨⟨k, hk⟩, b, hf⟩ _ _
          · exact (ow.dom id' off' (mem_dropCells (mem_drop.1 hm).1).1).set _ _
      · have : (owns own (.slot s) && x.isOne) = false := by simpa using hcond
        simp only [this, cond_false]
        exact ⟨_, _, hrun, base⟩
    | const c => exact ⟨_, _, hrun, base⟩
    | global q => exact ⟨_, _, hrun, base⟩
    | func q => exact ⟨_, _, hrun, base⟩

end
end Go.Proofs.YtomheegfobcijaaGreatDoor.Am

/- The abstract machine is right: a block that is no row of cells (a map) is written, or made. -/
namespace Go.Proofs.YtomheegfobcijaaGreatDoor.Am
set_option linter.unusedVariables false
set_option linter.unusedSimpArgs false
open Go.RowKit

section
variable {P : Program} {w : World}

theorem cell_none {l o : Nat} {x : Obj} (h : w.heap[l]? = some x) (hx : ∀ cs t f, x ≠ .cells cs t f) : w.cell? ⟨l, o, none⟩ = none := by
  unfold World.cell?
  rw [h]
  cases x <;> first | rfl | exact absurd rfl (hx _ _ _)

/-- Such a block is written: all else stays. -/
theorem obj_done {G : Gh} {env : List (Nat × AV)} {H : List (Option Blk)} {own : List Loc} {tt : Nat → Value} (g : GOk G w) (hH : HeapRel P G H w) (ow : Owns P G env H own tt w) {id l : Nat} {k k' : Blk} {o o' : Obj}
    (hf : G.f id = some l) (hlo : G.lo ≤ id) (hk : H[id]? = some (some k)) (hke : Nat.beq k.e LOOP = true) (hkne : k.cs ≠ []) (ho : w.heap[l]? = some o) (hno : ∀ cs t f, o ≠ .cells cs t f) (hno' : ∀ cs t f, o' ≠ .cells cs t f)
    (hkz : isFz k = false) (hke' : Nat.beq k'.e LOOP = true) (hkne' : k'.cs ≠ []) (hla : ∀ M', (G.mem w).le M' → LoopAt P M' (w.putObj l o') l k') (x : AV) (v : Value) (rx : ∀ M', (G.mem w).le M' → Rep P M' x v) (d : Nat) :
    Done P G w env tt ⟨x, H.set id (some k'), own, false⟩ d v (w.putObj l o') G := by
  have hlt : l < w.heap.size := (Array.getElem?_eq_some_iff.1 ho).1
  have hidlt : id < H.length := (List.getElem?_eq_some_iff.1 hk).1
  have hnew : (w.putObj l o').heap[l]? = some o' := World.putObj_heap_same hlt
  have hoth : ∀ q, q ≠ l → (w.putObj l o').heap[q]? = w.heap[q]? := fun q hq => World.putObj_heap_other hq
  have hext : Ext G w G (w.putObj l o') := by
    refine ⟨rfl, rfl, rfl, by rw [World.putObj_size]; exact Nat.le_refl _, ?_, fun _ _ h => h, fun _ => Nat.le_refl _, ?_, rfl⟩
    · intro b q v hv
      have hb : b ≠ l := by
        rintro rfl
        unfold pmOf at hv
        split at hv
        · rw [cell_none ho hno] at hv; cases hv
        · cases hv
      unfold pmOf at hv ⊢
      split at hv
      · rename_i hlt'; rw [if_pos hlt', World.cell?_of_block (hoth b hb)]; exact hv
      · cases hv
    · intro b hb hn
      have hbl : b ≠ l := by rintro rfl; exact hn (.inl ⟨⟨id, hlo, hf⟩, hH.lim id _ k hf hk hkne hkz⟩)
      exact ⟨hoth b hbl, rfl, hn, fun _ h => h⟩
  have hgok : GOk G (w.putObj l o') := ⟨fun i b h => by rw [World.putObj_size]; exact g.fin i b h, fun b hb => g.new b (by rw [World.putObj_size] at hb; exact hb), hext.held g.held⟩
  have hset : ∀ j q, (H.set id (some k'))[j]? = some (some q) → (j = id ∧ q = k') ∨ (j ≠ id ∧ H[j]? = some (some q)) := by
    intro j q hj
    by_cases hji : j = id
    · subst hji
      rw [List.getElem?_set_self hidlt] at hj
      injection hj with hj
      injection hj with hj
      exact .inl ⟨rfl, hj.symm⟩
    · rw [List.getElem?_set_ne (fun e => hji e.symm)] at hj
      exact .inr ⟨hji, hj⟩
  have hone : ∀ j q, G.f j = some l → j ≠ id → H[j]? = some (some q) → False := by
    intro j q hj hne hq
    by_cases hqn : q.cs = []
    · obtain ⟨cs, hc, _⟩ := (hH.blk j l q hj hq).1 ((hH.blk j l q hj hq).cs_nil hqn)
      rw [ho] at hc
      injection hc with hc
      exact hno _ _ _ hc
    · exact hne (hH.inj j id l q k hj hf hq hk hqn hkne)
  have hheap : HeapRel P G (H.set id (some k')) (w.putObj l o') := by
    refine ⟨fun i b hi => (hH.dom i b hi).set _ _, fun i b q hi hq => ?_, fun i j b q1 q2 hi hj hq1 hq2 n1 n2 => ?_, fun i b q hi hq hn => ?_⟩
    · rcases hset i q hq with ⟨rfl, rfl⟩ | ⟨hne, hq⟩
      · rw [hf] at hi; injection hi with hi; subst hi
        exact ⟨fun e' => (by rw [hke'] at e'; cases e'), fun _ => hla _ hext.mem⟩
      · have hbl : b ≠ l := by rintro rfl; exact hone i q hi hne hq
        exact (hH.blk i b q hi hq).to (hoth b hbl) rfl hext.mem
    · rcases hset i q1 hq1 with ⟨b1, _⟩ | ⟨b1, hq1⟩ <;> rcases hset j q2 hq2 with ⟨b2, _⟩ | ⟨b2, hq2⟩
      · rw [b1, b2]
      · rw [b1, hf] at hi; injection hi with hi; subst hi; exact (hone j q2 hj b2 hq2).elim
      · rw [b2, hf] at hj; injection hj with hj; subst hj; exact (hone i q1 hi b1 hq1).elim
      · exact hH.inj i j b q1 q2 hi hj hq1 hq2 n1 n2
    · rcases hset i q hq with ⟨rfl, _⟩ | ⟨hne, hq⟩
      · rw [hf] at hi; injection hi with hi; subst hi; exact fun _ => hH.lim _ l k hf hk hkne hkz
      · exact hH.lim i b q hi hq hn
  have hown : ∀ lc z u, OwnAt P G w lc z u → OwnAt P G (w.putObj l o') lc z u := by
    intro lc z u ro e xs hx
    obtain ⟨sz, cells, a1, a2, a3, a4⟩ := ro e xs hx
    refine ⟨sz, cells, a1, a2, a3.kept (grownBy_putObj' w l _) (row := some l) ?_, a4⟩
    cases hu : u.ownBlock with
    | none => exact .inl rfl
    | some q =>
      refine .inr ?_
      intro e
      injection e with e
      subst e
      have := (a4 q hu).1
      rw [(g.fin id q hf).2] at this
      cases this
  refine ⟨hext, hgok, hheap, rx _ hext.mem, fun s _ hs => hown _ _ _ (ow.slot s hs), fun i off b q cs hm hi hq hb => ?_, fun h => (by cases h), fun i off hm => (ow.dom i off hm).set _ _⟩
  rcases hset i q hq with ⟨rfl, _⟩ | ⟨hne, hq⟩
  · rw [hf] at hi; injection hi with hi; subst hi
    rw [hnew] at hb
    injection hb with hb
    exact absurd hb (hno' _ _ _)
  · have hbl : b ≠ l := by
      rintro rfl
      rw [hnew] at hb
      injection hb with hb
      exact absurd hb (hno' _ _ _)
    rw [hoth b hbl] at hb
    exact hown _ _ _ (ow.cell i off b q cs hm hi hq hb)

end
end Go.Proofs.YtomheegfobcijaaGreatDoor.Am

/- The abstract machine is right: what is looked up in maps, and what is written into them. -/
namespace Go.Proofs.YtomheegfobcijaaGreatDoor.Am
set_option linter.unusedVariables false
set_option linter.unusedSimpArgs false
open Go.RowKit

section
variable {P : Program} {w : World}

theorem str_beq (s t : List UInt8) : ((⟨⟨s⟩⟩ : ByteArray) == ⟨⟨t⟩⟩) = (s == t) := by
  have h1 : ((⟨⟨s⟩⟩ : ByteArray) == ⟨⟨t⟩⟩) = ((⟨s⟩ : Array UInt8) == ⟨t⟩) := rfl
  rw [h1]
  simp
theorem keyEq_sound {M : Mem} {d : TypeDesc} {x y : AV} {v u : Value} {b : Bool} (h : keyEq d x y = some b) (rx : Rep P M x v) (ry : Rep P M y u) : Instr.sameNow d v u = some b := by
  unfold keyEq at h
  split at h
  · cases rx; cases ry
    rename_i k a k' a'
    unfold Instr.sameNow
    exact h
  · cases rx; cases ry
    show some (_ == _) = some b
    rw [str_beq]
    exact h
  · cases h
theorem find_sound {M : Mem} {d : TypeDesc} {x : AV} {v : Value} (rx : Rep P M x v) : ∀ (l : List (AV × AV)) (es : List MapEntry) (i : Nat) (r : Option (Nat × AV)), es.length = l.length →
    (∀ j, j < l.length → ∀ p e, l[j]? = some p → es[j]? = some e → Rep P M p.1 e.key ∧ Rep P M p.2 e.val) → findA d x l i = some r →
    ∃ r', Instr.findNow d v es i = some r' ∧ ((r = none ∧ r' = none) ∨ ∃ j y z, r = some (i + j, y) ∧ r' = some (i + j, z) ∧ j < l.length ∧ Rep P M y z)
  | [], [], i, r, _, _, h => by
    unfold findA at h
    injection h with h; subst h
    exact ⟨none, rfl, .inl ⟨rfl, rfl⟩⟩
  | [], _ :: _, _, _, hl, _, _ => by cases hl
  | _ :: _, [], _, _, hl, _, _ => by cases hl
  | p :: l, e :: es, i, r, hl, hr, h => by
    have h0 := hr 0 (by simp) p e rfl rfl
    unfold findA at h
    unfold Instr.findNow
    cases hk : keyEq d x p.1 with
    | none => rw [hk] at h; cases h
    | some b =>
      rw [hk] at h
      rw [keyEq_sound hk rx h0.1]
      cases b with
      | true =>
        simp only at h
        injection h with h; subst h
        exact ⟨_, rfl, .inr ⟨0, p.2, e.val, rfl, rfl, by simp, h0.2⟩⟩
      | false =>
        simp only at h
        obtain ⟨r', h1, h2⟩ := find_sound rx l es (i + 1) r (by simpa using hl) (fun j hj q f hq hf => hr (j + 1) (by simp; omega) q f hq hf) h
        refine ⟨r', h1, ?_⟩
        rcases h2 with h2 | ⟨j, y, z, a1, a2, a3, a4⟩
        · exact .inl h2
        · exact .inr ⟨j + 1, y, z, by rw [a1]; congr 2; omega, by rw [a2]; congr 2; omega, by simp; omega, a4⟩
theorem run_checkKey {kt : TypeId} {d : TypeDesc} (hu : P.underlying kt = some d) (hd : keyD d = true) (b : Bool) (v : Value) : (Instr.checkKey b 10000 kt v).run P w = .ok () w := by
  show (Instr.checkKey b (9999 + 1) kt v).run P w = _
  unfold Instr.checkKey
  simp only [Sem.run_bind, run_underlying' hu, Result.andThen_ok]
  cases d <;> first | (cases hd; done) | (cases v <;> rfl)
theorem run_findKey {kt : TypeId} {d : TypeDesc} (hu : P.underlying kt = some d) {v : Value} {es : List MapEntry} {r : Option (Nat × Value)} (h : Instr.findNow d v es 0 = some r) : (Instr.findKey kt v es).run P w = .ok r w := by
  unfold Instr.findKey
  simp only [Sem.run_bind, run_underlying' hu, Result.andThen_ok, h, Sem.run_pure]
theorem mapBlk_inj {a b : List (AV × AV)} (h : mapBlk a = mapBlk b) : a = b := by
  unfold mapBlk at h
  injection h with _ h
  injection h with _ h
  refine (List.map_inj_right fun x y e => ?_).1 h
  injection e with e
  injection e with e1 e2
  injection e2 with e2 _
  exact Prod.ext e1 e2
theorem mapFz_inj {a b : List (AV × AV)} (h : mapFz a = mapFz b) : a = b := by
  unfold mapFz at h
  injection h with _ h
  injection h with _ h
  refine (List.map_inj_right fun x y e => ?_).1 h
  injection e with e
  injection e with e1 e2
  injection e2 with e2 _
  exact Prod.ext e1 e2
theorem map_eq {a b : List (AV × AV)} {k : Blk} (h : k = mapBlk a ∨ k = mapFz a) (h2 : k = mapBlk b ∨ k = mapFz b) : a = b := by
  rcases h with rfl | rfl <;> rcases h2 with h2 | h2
  · exact mapBlk_inj h2
  · unfold mapBlk mapFz at h2; injection h2 with _ h2; injection h2 with h2 _; cases h2
  · unfold mapBlk mapFz at h2; injection h2 with _ h2; injection h2 with h2 _; cases h2
  · exact mapFz_inj h2
theorem getMap_R {H : List (Option Blk)} {id : Nat} {m : List (AV × AV)} (h : getMap H id = some m) : getMapR H id = some m := by
  unfold getMap at h
  unfold getMapR
  split at h
  · rename_i hk; rw [hk]; exact h
  · cases h
/-- What a map that is known holds. -/
theorem map_at {G : Gh} {H : List (Option Blk)} (hH : HeapRel P G H w) {id r : Nat} {l : List (AV × AV)} (hl : getMapR H id = some l) (hf : G.f id = some r) :
    ∃ es clock, w.heap[r]? = some (.map es clock) ∧ es.toList.length = l.length ∧ (∀ j, j < l.length → ∀ p e, l[j]? = some p → es.toList[j]? = some e → Rep P (G.mem w) p.1 e.key ∧ Rep P (G.mem w) p.2 e.val) ∧ MapKept.Stamped es clock := by
  obtain ⟨k, hk, hkm⟩ : ∃ k, H[id]? = some (some k) ∧ (k = mapBlk l ∨ k = mapFz l) := by
    rcases getMapR_some hl with h | h
    · exact ⟨_, h, .inl rfl⟩
    · exact ⟨_, h, .inr rfl⟩
  have hke : Nat.beq k.e LOOP = true := by rcases hkm with rfl | rfl <;> exact Nat.beq_refl _
  rcases (hH.blk id r _ hf hk).2 hke with ⟨L, st, kind, x, vars, env, h1, h2, _⟩ | ⟨m, es, cl, h1, h2, h3, h4⟩ | h2
  rotate_right
  · unfold anyBlk at h2
    rcases hkm with rfl | rfl <;> (injection h2 with _ h2; injection h2 with h2 _; cases h2)
  · rcases hkm with rfl | rfl
    · unfold recA mapBlk at h2
      injection h2 with h2
      injection h2 with _ h2
      injection h2 with h2 _
      cases h2
    · unfold recA mapFz at h2
      injection h2 with h2
      injection h2 with _ h2
      injection h2 with h2 _
      cases h2
  · rw [← map_eq hkm h2] at h3 h4
    exact ⟨es, cl, h1, h3, h4⟩
theorem entries_sound {G : Gh} {H : List (Option Blk)} (hH : HeapRel P G H w) {x : AV} {v : Value} {l : List (AV × AV)} (hl : entriesA H x = some l) (rx : Rep P (G.mem w) x v) :
    ∃ es : Array MapEntry, es.toList.length = l.length ∧ (∀ j, j < l.length → ∀ p e, l[j]? = some p → es.toList[j]? = some e → Rep P (G.mem w) p.1 e.key ∧ Rep P (G.mem w) p.2 e.val) ∧
      ((v = .map none ∧ es = #[]) ∨ ∃ r clock, v = .map (some r) ∧ w.heap[r]? = some (.map es clock)) := by
  unfold entriesA at hl
  split at hl
  · cases rx
    injection hl with hl; subst hl
    exact ⟨#[], rfl, fun j hj => absurd hj (Nat.not_lt_zero _), .inl ⟨rfl, rfl⟩⟩
  · cases rx with
    | map _ r hf =>
      obtain ⟨es, cl, h1, h2, h3, _⟩ := map_at hH hl hf
      exact ⟨es, h2, h3, .inr ⟨r, cl, rfl, h1⟩⟩
  · cases hl
theorem zeroV_sound {M : Mem} {t : TypeId} {z : AV} (h : zeroV P t = some z) : ∃ v, (zeroValue t).run P w = .ok v w ∧ Rep P M z v := by
  unfold zeroV at h
  split at h
  · rename_i i hi
    split at h
    · rename_i v hz
      exact ⟨v, by simp only [zeroValue, Sem.run_bind, run_typeInfo' hi, Result.andThen_ok, hz, Sem.run_pure], Rep.const h⟩
    · cases h
  · cases h
theorem rep_pair {M : Mem} {x : AV} {v : Value} (r : Rep P M x v) (b : Bool) : Rep P M (.tup [x, .bool b]) (.tuple #[v, .bool b]) := by
  refine .tup _ _ rfl fun i hi => ?_
  match i, hi with
  | 0, _ => exact r
  | 1, _ => exact .bool b
theorem lookup_sound {G : Gh} {H : List (Option Blk)} (hH : HeapRel P G H w) {t : TypeId} {x i r : AV} {v k : Value} {ok : Bool} (h : lookupA P H t x i ok = some r) (rx : Rep P (G.mem w) x v) (ri : Rep P (G.mem w) i k) :
    ∃ z, (Instr.lookup t v k ok).run P w = .ok z w ∧ Rep P (G.mem w) r z := by
  unfold lookupA at h
  split at h
  case h_2 => cases h
  rename_i kt et hu
  split at h
  case h_2 => cases h
  rename_i d hd
  cases hk : keyD d with
  | false => rw [hk] at h; cases h
  | true =>
  rw [hk, cond_true] at h
  split at h
  case h_2 => cases h
  rename_i l hl
  obtain ⟨es, e1, e2, e3⟩ := entries_sound hH hl rx
  have getm : ∀ {rr cl : Nat}, w.heap[rr]? = some (.map es cl) → (getObj rr).run P w = .ok (.map es cl) w := fun hh => by simp [getObj, Sem.run, hh]
  have fin : ∀ (q : Option (Nat × AV)), findA d i l 0 = some q → (match q with | some (_, a) => some (cond ok (.tup [a, .bool true]) a) | none => (zeroV P et).map fun a => cond ok (.tup [a, .bool false]) a) = some r →
      ∃ z, (Instr.lookup t v k ok).run P w = .ok z w ∧ Rep P (G.mem w) r z := by
    intro q hq hr
    obtain ⟨r', f1, f2⟩ := find_sound ri l es.toList 0 q e1 e2 hq
    have hfk := run_findKey (w := w) hd f1
    have hck := run_checkKey (P := P) (w := w) hd hk es.isEmpty k
    rcases f2 with ⟨rfl, rfl⟩ | ⟨j, a, z, rfl, rfl, _, rz⟩
    · cases hz : zeroV P et with
      | none => rw [hz] at hr; cases hr
      | some a =>
        rw [hz] at hr
        obtain ⟨zv, z1, z2⟩ := zeroV_sound (w := w) (M := G.mem w) hz
        refine ⟨if ok then .tuple #[zv, .bool false] else zv, ?_, ?_⟩
        · rcases e3 with ⟨rfl, rfl⟩ | ⟨rr, cl, rfl, hh⟩
          · unfold Instr.lookup
            simp only [Sem.run_bind, run_underlying' hu, Result.andThen_ok, Sem.run_pure, hck, hfk, z1]
          · unfold Instr.lookup
            simp only [Sem.run_bind, run_underlying' hu, Result.andThen_ok, Sem.run_pure, getm hh, hck, hfk, z1]
        · simp only [Option.map_some, Option.some.injEq] at hr
          subst hr
          cases ok with
          | true => exact rep_pair z2 false
          | false => exact z2
    · refine ⟨if ok then .tuple #[z, .bool true] else z, ?_, ?_⟩
      · rcases e3 with ⟨rfl, rfl⟩ | ⟨rr, cl, rfl, hh⟩
        · unfold Instr.lookup
          simp only [Sem.run_bind, run_underlying' hu, Result.andThen_ok, Sem.run_pure, hck, hfk]
        · unfold Instr.lookup
          simp only [Sem.run_bind, run_underlying' hu, Result.andThen_ok, Sem.run_pure, getm hh, hck, hfk]
      · simp only [Option.some.injEq] at hr
        subst hr
        cases ok with
        | true => exact rep_pair rz true
        | false => exact rz
  split at h
  · rename_i q a hq; exact fin _ hq h
  · rename_i hq; exact fin _ hq h
  · cases h
theorem find_at {d : TypeDesc} {v : Value} : ∀ (es : List MapEntry) (i n : Nat) (z : Value), Instr.findNow d v es i = some (some (n, z)) → ∃ j e, n = i + j ∧ es[j]? = some e ∧ Instr.sameNow d v e.key = some true ∧ e.val = z
  | [], _, _, _, h => by cases h
  | e :: es, i, n, z, h => by
    unfold Instr.findNow at h
    cases hs : Instr.sameNow d v e.key with
    | none => rw [hs] at h; cases h
    | some b =>
      rw [hs] at h
      cases b with
      | true =>
        injection h with h; injection h with h; injection h with h1 h2
        exact ⟨0, e, h1.symm, rfl, hs, h2⟩
      | false =>
        obtain ⟨j, e', h1, h2, h3, h4⟩ := find_at es (i + 1) n z h
        exact ⟨j + 1, e', by omega, by simpa using h2, h3, h4⟩
theorem bits_same {d : TypeDesc} {v u : Value} (h : Instr.sameNow d v u = some true) : Instr.sameBits 10000 u v = true := by
  unfold Instr.sameNow at h
  split at h
  · rename_i k a k' b
    split at h
    · rename_i e
      injection h with h
      subst e
      show (_ == _ && _ == _) = true
      rw [Bool.and_eq_true]
      exact ⟨by simp, by have := eq_of_beq h; rw [this]; simp⟩
    · cases h
  · rename_i a b
    injection h with h
    have e : a = b := by
      obtain ⟨⟨a⟩⟩ := a
      obtain ⟨⟨b⟩⟩ := b
      rw [str_beq] at h
      rw [eq_of_beq h]
    subst e
    obtain ⟨⟨a⟩⟩ := a
    show (_ == _) = true
    rw [str_beq]
    simp
  · rename_i a b
    injection h with h
    have := eq_of_beq h
    subst this
    show (_ == _) = true
    simp
  · cases h
theorem same_eq {d : TypeDesc} {v u : Value} (h : Instr.sameNow d v u = some true) : v = u := by
  unfold Instr.sameNow at h
  split at h
  · split at h
    · rename_i e
      injection h with h
      subst e
      have := eq_of_beq h; rw [this]
    · cases h
  · rename_i a b
    injection h with h
    obtain ⟨⟨a⟩⟩ := a
    obtain ⟨⟨b⟩⟩ := b
    rw [str_beq] at h
    rw [eq_of_beq h]
  · rename_i a b
    injection h with h
    rw [eq_of_beq h]
  · cases h
theorem same_ne {d : TypeDesc} {v u : Value} (h : Instr.sameNow d v u = some false) : u ≠ v := by
  rintro rfl
  unfold Instr.sameNow at h
  split at h
  · simp at h
  · injection h with h
    rename_i a
    have : ∀ a : ByteArray, (a == a) = true := fun a => by obtain ⟨⟨a⟩⟩ := a; rw [str_beq]; simp
    rw [this] at h; cases h
  · injection h with h
    simp at h
  · cases h
theorem find_no {d : TypeDesc} {v : Value} : ∀ (es : List MapEntry) (i : Nat), Instr.findNow d v es i = some none → ∀ x ∈ es, x.key ≠ v
  | [], _, _, x, hx => by cases hx
  | e :: es, i, h, x, hx => by
    unfold Instr.findNow at h
    cases hs : Instr.sameNow d v e.key with
    | none => rw [hs] at h; cases h
    | some b =>
      rw [hs] at h
      cases b with
      | true => cases h
      | false =>
        rcases List.mem_cons.1 hx with rfl | hx
        · exact same_ne hs
        · exact find_no es (i + 1) h x hx
theorem run_setMap {r cl : Nat} {es : Array MapEntry} (o : Obj) (hh : w.heap[r]? = some (.map es cl)) : (setObj r o).run P w = .ok () (w.putObj r o) := by simp [setObj, Sem.run, hh, World.putObj]
theorem run_getMap {r cl : Nat} {es : Array MapEntry} (hh : w.heap[r]? = some (.map es cl)) : (getObj r).run P w = .ok (.map es cl) w := by simp [getObj, Sem.run, hh]

/-- A map is written: its entries are told anew. -/
theorem map_done {G : Gh} {env : List (Nat × AV)} {H : List (Option Blk)} {own : List Loc} {tt : Nat → Value} (g : GOk G w) (hH : HeapRel P G H w) (ow : Owns P G env H own tt w) {id r : Nat} {l l' : List (AV × AV)} {es es' : Array MapEntry} {cl cl' : Nat}
    (hl : getMap H id = some l) (hf : G.f id = some r) (hlo : G.lo ≤ id) (hh : w.heap[r]? = some (.map es cl)) (hst : MapKept.Stamped es' cl') (h1 : es'.toList.length = l'.length) (h2 : ∀ j, j < l'.length → ∀ p e, l'[j]? = some p → es'.toList[j]? = some e → Rep P (G.mem w) p.1 e.key ∧ Rep P (G.mem w) p.2 e.val) (x : AV) (v : Value) (rx : ∀ M', Rep P M' x v) (d : Nat) :
    Done P G w env tt ⟨x, H.set id (some (mapBlk l')), own, false⟩ d v (w.putObj r (.map es' cl')) G := by
  have hlt : r < w.heap.size := (Array.getElem?_eq_some_iff.1 hh).1
  exact obj_done g hH ow (k := mapBlk l) (k' := mapBlk l') hf hlo (getMap_some hl) (Nat.beq_refl _) (by simp [mapBlk]) hh (fun _ _ _ e => by cases e) (fun _ _ _ e => by cases e) rfl (Nat.beq_refl _) (by simp [mapBlk])
    (fun M' hm => .inr <| .inl ⟨l', es', cl', World.putObj_heap_same hlt, .inl rfl, h1, fun j hj p e hp he => ⟨(h2 j hj p e hp he).1.mono hm, (h2 j hj p e hp he).2.mono hm⟩, hst⟩) x v (fun M' _ => rx M') d
theorem upd_sound {G : Gh} {env : List (Nat × AV)} {H : List (Option Blk)} {own : List Loc} {tt : Nat → Value} (g : GOk G w) (hH : HeapRel P G H w) (ow : Owns P G env H own tt w) {t : TypeId} {x i y : AV} {mv k u : Value} {id : Nat} {l' : List (AV × AV)}
    (h : updA P H t x i y = some (id, l')) (hlo : G.lo ≤ id) (rx : Rep P (G.mem w) x mv) (ri : Rep P (G.mem w) i k) (ry : Rep P (G.mem w) y u) (d : Nat) :
    ∃ w', (Instr.mapUpdate t mv k u).run P w = .ok () w' ∧ Done P G w env tt ⟨.tup [], H.set id (some (mapBlk l')), own, false⟩ d undef w' G := by
  unfold updA at h
  split at h
  case h_2 => cases h
  rename_i kt et id0 hu
  cases rx with
  | map _ r hf =>
  split at h
  case h_2 => cases h
  rename_i dd l hd hl
  cases hk : keyD dd with
  | false => rw [hk] at h; cases h
  | true =>
  rw [hk, cond_true] at h
  obtain ⟨es, cl, hh, e1, e2, hst⟩ := map_at hH (getMap_R hl) hf
  have hck := run_checkKey (P := P) (w := w) hd hk false k
  have rt : ∀ M', Rep P M' (.tup []) undef := fun M' => .tup [] #[] rfl fun i hi => absurd hi (Nat.not_lt_zero _)
  have fin : ∀ q, findA dd i l 0 = some q → (match q with | some (j, _) => some (id0, l.set j (i, y)) | none => some (id0, l ++ [(i, y)])) = some (id, l') →
      ∃ w', (Instr.mapUpdate t (.map (some r)) k u).run P w = .ok () w' ∧ Done P G w env tt ⟨.tup [], H.set id (some (mapBlk l')), own, false⟩ d undef w' G := by
    intro q hq hr
    obtain ⟨r', f1, f2⟩ := find_sound ri l es.toList 0 q e1 e2 hq
    have hfk := run_findKey (w := w) hd f1
    rcases f2 with ⟨rfl, rfl⟩ | ⟨j, a, z, rfl, rfl, hj, rz⟩
    · injection hr with hr; injection hr with hr1 hr2
      subst hr1; subst hr2
      refine ⟨_, ?_, map_done g hH ow (cl' := cl + 1) (es' := es.push { key := k, val := u, born := cl }) hl hf hlo hh (MapKept.stamped_push hst fun x hx => find_no es.toList 0 f1 x hx) (by simp only [Array.toList_push, List.length_append, List.length_singleton, e1]) ?_ _ _ rt d⟩
      · unfold Instr.mapUpdate
        simp only [Sem.run_bind, run_underlying' hu, Result.andThen_ok, run_getMap hh, hck, hfk, run_setMap _ hh]
      · intro j hj p e hp he
        rw [Array.toList_push] at he
        by_cases hjl : j < l.length
        · rw [List.getElem?_append_left hjl] at hp
          rw [List.getElem?_append_left (by omega)] at he
          exact e2 j hjl p e hp he
        · have : j = l.length := by rw [List.length_append, List.length_singleton] at hj; omega
          subst this
          rw [List.getElem?_append_right (Nat.le_refl _), Nat.sub_self] at hp
          rw [List.getElem?_append_right (by omega), e1, Nat.sub_self] at he
          injection hp with hp; injection he with he
          subst hp; subst he
          exact ⟨ri, ry⟩
    · injection hr with hr; injection hr with hr1 hr2
      subst hr1
      obtain ⟨j', e, j1, j2, j3, _⟩ := find_at es.toList 0 (0 + j) z f1
      obtain rfl : j' = j := by omega
      rw [Nat.zero_add] at hr2 hfk
      subst hr2
      have hes : es[j']? = some e := by simpa using j2
      refine ⟨_, ?_, map_done g hH ow (cl' := cl) (es' := es.modify j' fun e => { e with key := k, val := u }) hl hf hlo hh (MapKept.stamped_modify hst j' _ (fun _ _ => rfl) fun e' _ he' => by rw [hes] at he'; injection he' with he'; subst he'; exact same_eq j3) (by simp [e1]) ?_ _ _ rt d⟩
      · unfold Instr.mapUpdate
        simp only [Sem.run_bind, run_underlying' hu, Result.andThen_ok, run_getMap hh, hck, hfk, hes, Option.map_some, Option.getD_some, Instr.keyThatStays, bits_same j3, if_true, Sem.run_pure, run_setMap _ hh]
      · intro q hq p f hp hf'
        rw [List.length_set] at hq
        rw [Array.getElem?_toList, Array.getElem?_modify] at hf'
        by_cases hjq : j' = q
        · subst hjq
          rw [List.getElem?_set_self hj] at hp
          rw [if_pos rfl, hes] at hf'
          injection hp with hp; injection hf' with hf'
          subst hp; subst hf'
          exact ⟨ri, ry⟩
        · rw [List.getElem?_set_ne hjq] at hp
          rw [if_neg hjq] at hf'
          exact e2 q hq p f hp (by simpa using hf')
  split at h
  · rename_i j a hq; exact fin _ hq h
  · rename_i hq; exact fin _ hq h
  · cases h
theorem del_sound {G : Gh} {env : List (Nat × AV)} {H : List (Option Blk)} {own : List Loc} {tt : Nat → Value} (g : GOk G w) (hH : HeapRel P G H w) (ow : Owns P G env H own tt w) {t ty kt' : TypeId} {x i : AV} {mv k : Value} {id : Nat} {l' : List (AV × AV)}
    (h : delA P H t x i = some (id, l')) (hlo : G.lo ≤ id) (rx : Rep P (G.mem w) x mv) (ri : Rep P (G.mem w) i k) (d : Nat) :
    ∃ w', (Builtin.delete_ #[t, kt'] ty #[mv, k]).run P w = .ok (.tuple #[]) w' ∧ Done P G w env tt ⟨.tup [], H.set id (some (mapBlk l')), own, false⟩ d (.tuple #[]) w' G := by
  unfold delA at h
  split at h
  case h_2 => cases h
  rename_i kt et id0 hu
  cases rx with
  | map _ r hf =>
  split at h
  case h_2 => cases h
  rename_i dd l hd hl
  cases hk : keyD dd with
  | false => rw [hk] at h; cases h
  | true =>
  rw [hk, cond_true] at h
  obtain ⟨es, cl, hh, e1, e2, hst⟩ := map_at hH (getMap_R hl) hf
  have hck := run_checkKey (P := P) (w := w) hd hk es.isEmpty k
  have rt : ∀ M', Rep P M' (.tup []) (.tuple #[]) := fun M' => .tup [] #[] rfl fun i hi => absurd hi (Nat.not_lt_zero _)
  have fin : ∀ q, findA dd i l 0 = some q → (match q with | some (j, _) => some (id0, l.eraseIdx j) | none => some (id0, l)) = some (id, l') →
      ∃ w', (Builtin.delete_ #[t, kt'] ty #[.map (some r), k]).run P w = .ok (.tuple #[]) w' ∧ Done P G w env tt ⟨.tup [], H.set id (some (mapBlk l')), own, false⟩ d (.tuple #[]) w' G := by
    intro q hq hr
    obtain ⟨r', f1, f2⟩ := find_sound ri l es.toList 0 q e1 e2 hq
    have hfk := run_findKey (w := w) hd f1
    rcases f2 with ⟨rfl, rfl⟩ | ⟨j, a, z, rfl, rfl, hj, rz⟩
    · injection hr with hr; injection hr with hr1 hr2
      subst hr1; subst hr2
      refine ⟨_, ?_, map_done g hH ow (cl' := cl) (es' := es) hl hf hlo hh hst e1 e2 _ _ rt d⟩
      unfold Builtin.delete_
      simp only [List.getElem?_toArray, List.getElem?_cons_zero, List.getElem?_cons_succ, Sem.run_bind, run_underlying' hu, Result.andThen_ok, run_getMap hh, hck, hfk, run_setMap _ hh, Sem.run_pure]
    · injection hr with hr; injection hr with hr1 hr2
      subst hr1
      rw [Nat.zero_add] at hr2 hfk
      subst hr2
      have hje : j < es.size := by rw [← e1, Array.length_toList] at hj; exact hj
      refine ⟨_, ?_, map_done g hH ow (cl' := cl) (es' := es.eraseIdxIfInBounds j) hl hf hlo hh (MapKept.stamped_erase hst j) (by simp [Array.eraseIdxIfInBounds, hje, List.length_eraseIdx, hj, e1]) ?_ _ _ rt d⟩
      · unfold Builtin.delete_
        simp only [List.getElem?_toArray, List.getElem?_cons_zero, List.getElem?_cons_succ, Sem.run_bind, run_underlying' hu, Result.andThen_ok, run_getMap hh, hck, hfk, run_setMap _ hh, Sem.run_pure]
      · intro q hq p f hp hf'
        have he : (es.eraseIdxIfInBounds j).toList = es.toList.eraseIdx j := by simp [Array.eraseIdxIfInBounds, hje]
        rw [he] at hf'
        rw [List.length_eraseIdx, if_pos hj] at hq
        rw [List.getElem?_eraseIdx] at hp hf'
        by_cases hqj : q < j
        · rw [if_pos hqj] at hp hf'
          exact e2 q (by omega) p f hp hf'
        · rw [if_neg hqj] at hp hf'
          exact e2 (q + 1) (by omega) p f hp hf'
  split at h
  · rename_i j a hq; exact fin _ hq h
  · rename_i hq; exact fin _ hq h
  · cases h
/-! ### a new map -/
theorem onew_grow {G : Gh} (g : GOk G w) {id : Nat} (hid : G.f id = none) (o : Obj) : Grow G w (G.map id w.heap.size 0) (w.alloc o) where
  below := (Below.refl _ _).alloc (Nat.le_refl _) _
  lim := fun _ _ => rfl
  owner := fun _ _ => rfl
  bs := fun b hb => upd_ne _ _ (by omega)
  f := fun i b h => by
    show upd G.f id _ i = _
    rw [upd_ne _ _ (by rintro rfl; rw [hid] at h; cases h)]; exact h
  fnew := fun i b h => by
    change upd G.f id (some w.heap.size) i = some b at h
    by_cases hi : i = id
    · subst hi; rw [upd_same] at h; injection h with h; exact .inr ⟨hid, by omega⟩
    · rw [upd_ne _ _ hi] at h; exact .inl h
theorem onew_gok {G : Gh} (g : GOk G w) {id : Nat} (hid : G.f id = none) (o : Obj) : GOk (G.map id w.heap.size 0) (w.alloc o) where
  fin := fun i b h => by
    change upd G.f id (some w.heap.size) i = some b at h
    by_cases hi : i = id
    · subst hi; rw [upd_same] at h; injection h with h; subst h
      obtain ⟨h1, h2, h3⟩ := g.new w.heap.size (Nat.le_refl _)
      exact ⟨by simp, h2⟩
    · rw [upd_ne _ _ hi] at h
      obtain ⟨h1, h2⟩ := g.fin i b h
      exact ⟨by simp; omega, h2⟩
  new := fun b hb => by
    simp only [World.size_alloc] at hb
    obtain ⟨h1, h2, h3⟩ := g.new b (by omega)
    exact ⟨h1, h2, by show upd _ _ _ b = 0; rw [upd_ne _ _ (by omega)]; exact h3⟩
  held := ((onew_grow g hid o).ext g).held g.held
theorem newmap_done {G : Gh} {env : List (Nat × AV)} {H : List (Option Blk)} {own : List Loc} {t : Nat → Value} (g : GOk G w) (r : HeapRel P G H w) (ow : Owns P G env H own t w) (d : Nat) :
    Done P G w env t ⟨.map H.length, H ++ [some (mapBlk [])], own, false⟩ d (.map (some w.heap.size)) (w.alloc (.map #[] 0)) (G.map H.length w.heap.size 0) := by
  have hid : G.f H.length = none := by
    cases hf : G.f H.length with
    | none => rfl
    | some b => have := (r.dom _ _ hf).lt; omega
  have gr := onew_grow g hid (.map #[] 0)
  have split_ : ∀ i b, (G.map H.length w.heap.size 0).f i = some b → (i = H.length ∧ b = w.heap.size) ∨ (i ≠ H.length ∧ G.f i = some b) := by
    intro i b h
    change upd G.f H.length (some w.heap.size) i = some b at h
    by_cases hi : i = H.length
    · subst hi; rw [upd_same] at h; injection h with h; exact .inl ⟨rfl, h.symm⟩
    · rw [upd_ne _ _ hi] at h; exact .inr ⟨hi, h⟩
  have old : ∀ {i b k}, G.f i = some b → (H ++ [some (mapBlk [])])[i]? = some (some k) → H[i]? = some (some k) := by
    intro i b k hf hk
    rw [List.getElem?_append_left (r.dom i b hf).lt] at hk; exact hk
  have hnew : (H ++ [some (mapBlk [])])[H.length]? = some (some (mapBlk [])) := by rw [List.getElem?_append_right (Nat.le_refl _), Nat.sub_self]; rfl
  refine ⟨gr.ext g, onew_gok g hid _, ⟨?_, ?_, ?_, ?_⟩, .map _ _ (upd_same _ _ _), fun s _ hs => (ow.slot s hs).grow gr, ?_, fun h => (by cases h), fun i off hm => ((ow.dom i off hm).append _).mono gr.f⟩
  · intro i b h
    rcases split_ i b h with ⟨rfl, rfl⟩ | ⟨_, h⟩
    · exact ⟨_, hnew⟩
    · exact (r.dom i b h).append _
  · intro i b k h hk
    rcases split_ i b h with ⟨rfl, rfl⟩ | ⟨_, h⟩
    · rw [hnew] at hk; injection hk with hk; injection hk with hk; subst hk
      exact ⟨fun e => (by cases e), fun _ => .inr <| .inl ⟨[], #[], 0, alloc_heap_new w _, .inl rfl, rfl, fun j hj => absurd hj (Nat.not_lt_zero _), MapKept.stamped_empty 0⟩⟩
    · exact (r.blk i b k h (old h hk)).grow gr g (g.fin i b h).1
  · intro i j b k l h1 h2 hk hl n1 n2
    rcases split_ i b h1 with ⟨q1, q2⟩ | ⟨_, q1⟩ <;> rcases split_ j b h2 with ⟨q3, q4⟩ | ⟨_, q3⟩
    · rw [q1, q3]
    · have := (g.fin j _ q3).1; omega
    · have := (g.fin i _ q1).1; omega
    · exact r.inj i j b k l q1 q3 (old q1 hk) (old q3 hl) n1 n2
  · intro i b k h hk hn
    rcases split_ i b h with ⟨_, rfl⟩ | ⟨_, h⟩
    · exact fun _ => (g.new _ (Nat.le_refl _)).1
    · exact r.lim i b k h (old h hk) hn
  · intro i off b k cs hm hf hk hb
    rcases split_ i b hf with ⟨rfl, _⟩ | ⟨_, hf⟩
    · have := (ow.dom _ off hm).lt; omega
    · rw [gr.below.block b (g.fin i b hf).1] at hb
      exact (ow.cell i off b k cs hm hf (old hf hk) hb).grow gr
/-- The same, at a place that was kept. -/
theorem newmapAt_done {G : Gh} {env : List (Nat × AV)} {H : List (Option Blk)} {own : List Loc} {t : Nat → Value} (g : GOk G w) (r : HeapRel P G H w) (ow : Owns P G env H own t w) {id : Nat} (hid : G.f id = none) (hnew : H[id]? = some (some (mapBlk []))) (hnc : ∀ off, Loc.cell id off ∉ own) (d : Nat) :
    Done P G w env t ⟨.map id, H, own, false⟩ d (.map (some w.heap.size)) (w.alloc (.map #[] 0)) (G.map id w.heap.size 0) := by
  have gr := onew_grow g hid (.map #[] 0)
  have split_ : ∀ i b, (G.map id w.heap.size 0).f i = some b → (i = id ∧ b = w.heap.size) ∨ (i ≠ id ∧ G.f i = some b) := by
    intro i b h
    change upd G.f id (some w.heap.size) i = some b at h
    by_cases hi : i = id
    · subst hi; rw [upd_same] at h; injection h with h; exact .inl ⟨rfl, h.symm⟩
    · rw [upd_ne _ _ hi] at h; exact .inr ⟨hi, h⟩
  refine ⟨gr.ext g, onew_gok g hid _, ⟨?_, ?_, ?_, ?_⟩, .map _ _ (upd_same _ _ _), fun s _ hs => (ow.slot s hs).grow gr, ?_, fun h => (by cases h), fun i off hm => (ow.dom i off hm).mono gr.f⟩
  · intro i b h
    rcases split_ i b h with ⟨rfl, rfl⟩ | ⟨_, h⟩
    · exact ⟨_, hnew⟩
    · exact r.dom i b h
  · intro i b k h hk
    rcases split_ i b h with ⟨rfl, rfl⟩ | ⟨_, h⟩
    · rw [hnew] at hk; injection hk with hk; injection hk with hk; subst hk
      exact ⟨fun e => (by cases e), fun _ => .inr <| .inl ⟨[], #[], 0, alloc_heap_new w _, .inl rfl, rfl, fun j hj => absurd hj (Nat.not_lt_zero _), MapKept.stamped_empty 0⟩⟩
    · exact (r.blk i b k h hk).grow gr g (g.fin i b h).1
  · intro i j b k l h1 h2 hk hl n1 n2
    rcases split_ i b h1 with ⟨q1, q2⟩ | ⟨_, q1⟩ <;> rcases split_ j b h2 with ⟨q3, q4⟩ | ⟨_, q3⟩
    · rw [q1, q3]
    · have := (g.fin j _ q3).1; omega
    · have := (g.fin i _ q1).1; omega
    · exact r.inj i j b k l q1 q3 hk hl n1 n2
  · intro i b k h hk hn
    rcases split_ i b h with ⟨_, rfl⟩ | ⟨_, h⟩
    · exact fun _ => (g.new _ (Nat.le_refl _)).1
    · exact r.lim i b k h hk hn
  · intro i off b k cs hm hf hk hb
    rcases split_ i b hf with ⟨rfl, _⟩ | ⟨_, hf⟩
    · exact absurd hm (hnc off)
    · rw [gr.below.block b (g.fin i b hf).1] at hb
      exact (ow.cell i off b k cs hm hf hk hb).grow gr
theorem len_map {G : Gh} {H : List (Option Blk)} (hH : HeapRel P G H w) {t ty kt et : TypeId} {x : AV} {v : Value} {l : List (AV × AV)} (hu : P.underlying t = some (.map kt et)) (hl : entriesA H x = some l) (rx : Rep P (G.mem w) x v) :
    (Builtin.len_ #[t] ty #[v]).run P w = .ok (.int .i64 l.length) w := by
  obtain ⟨es, e1, _, e3⟩ := entries_sound hH hl rx
  rcases e3 with ⟨rfl, rfl⟩ | ⟨r, cl, rfl, hh⟩
  · have : l.length = 0 := e1.symm
    rw [this]
    unfold Builtin.len_
    simp only [List.getElem?_toArray, List.getElem?_cons_zero, Sem.run_bind, run_underlying' hu, Result.andThen_ok, Sem.run_pure]
    rfl
  · have : es.size = l.length := by rw [← e1, Array.length_toList]
    unfold Builtin.len_
    simp only [List.getElem?_toArray, List.getElem?_cons_zero, Sem.run_bind, run_underlying' hu, Result.andThen_ok, run_getMap hh, Sem.run_pure, this]
    rfl
end
end Go.Proofs.YtomheegfobcijaaGreatDoor.Am

/- The abstract machine is right, twelfth part: every operation that is no call. -/
namespace Go.Proofs.YtomheegfobcijaaGreatDoor.Am
set_option linter.unusedVariables false
set_option linter.unusedSimpArgs false
open Go.RowKit

section
variable {P : Program} {w : World}

/-- The slots hold what the machine says. -/
def EnvRel (P : Program) (M : Mem) (env : List (Nat × AV)) (a : Act) : Prop := ∀ s, Rep P M (look env s) (a.tmps.getD s undef)
theorem EnvRel.opd {M : Mem} {env : List (Nat × AV)} {a : Act} (h : EnvRel P M env a) {x : Operand} {y : AV} (hx : evalO env x = some y) : Rep P M y (a.eval x) := by
  cases x with
  | tmp t => simp only [evalO, Option.some.injEq] at hx; subst hx; exact h t
  | const v => exact Rep.const hx
  | global g => cases hx
  | func f => simp only [evalO, Option.some.injEq] at hx; subst hx; exact .fn f [] #[] rfl (fun i hi => by simp at hi)
theorem EnvRel.ops {M : Mem} {env : List (Nat × AV)} {a : Act} (h : EnvRel P M env a) (xs : List Operand) : OpsRel P M env a.eval xs := fun x _ y hy => h.opd hy

def slotsOf (a : Act) : Nat → Value := fun s => a.tmps.getD s undef

/-- A value that is read of what is not turned. -/
theorem bytesOf_list {M : Mem} {G : Gh} (hM : M = G.mem w) {src dst e : TypeId} {xs sp : List AV} {v : Value} {s : List UInt8} (hs : P.underlying src = some (.slice e)) (he : P.underlying e = some (.int .u8)) (hd : P.underlying dst = some .string)
    (r : Rep P M (.lst e xs sp) v) (h : xs.mapM byteA = some s) : (Go.convert src dst v).run P w = .ok (.string ⟨⟨s⟩⟩) w := by
  subst hM
  have hx : ∀ (xs : List AV) (s : List UInt8), xs.mapM byteA = some s → ∃ ns : List Int, xs = ns.map (AV.int .u8) ∧ s = ns.map fun n => UInt8.ofNat n.toNat := by
    intro xs
    induction xs with
    | nil => intro s h; simp at h; subst h; exact ⟨[], rfl, rfl⟩
    | cons x r ih =>
      intro s h
      rw [List.mapM_cons] at h
      cases hb : byteA x with
      | none => simp [hb] at h
      | some b =>
        cases hr : r.mapM byteA with
        | none => simp [hb, hr] at h
        | some bs =>
          simp [hb, hr] at h; subst h
          obtain ⟨ns, h1, h2⟩ := ih bs hr
          unfold byteA at hb
          split at hb
          · rename_i n
            injection hb with hb
            exact ⟨n :: ns, by rw [h1]; rfl, by rw [h2, ← hb]; rfl⟩
          · cases hb
  obtain ⟨ns, rfl, rfl⟩ := hx xs s h
  cases r with
  | lst _ _ _ a cap sz b off c hsz hz hall hcap ha hc hr h1 =>
    by_cases h0 : ns.map (AV.int .u8) ++ sp = []
    · have h0' : ns = [] := by simpa using (List.append_eq_nil_iff.1 h0).1
      subst h0'
      cases a with
      | none => exact run_convert_bytes_nil w src e hs he _ _ dst hd
      | some ad =>
        simp only [Go.convert, Sem.run_bind, run_underlying' hs, run_underlying' hd, Result.andThen_ok, run_underlying' he]
        rfl
    · obtain rfl := ha h0
      have hfl : ∀ l : List Int, flat (l.map (AV.int .u8)) = l.map (AV.int .u8) := by
        intro l
        induction l with
        | nil => rfl
        | cons b r ih => simp only [flat, List.map_cons, List.flatMap_cons] at ih ⊢; rw [ih]; rfl
      rw [List.length_map]
      refine run_convert_bytes_arg w src e hs he b off ns.length cap ns rfl ?_ dst hd
      intro j hj
      have hj' : j < (flat (ns.map (AV.int .u8) ++ sp)).length := by rw [flat_append, List.length_append, hfl, List.length_map]; omega
      have hcell := pm_cell (hc j hj')
      have hrep := hr j hj'
      rw [flat_append, hfl] at hrep
      simp only [List.getD_eq_getElem?_getD] at hrep ⊢
      rw [List.getElem?_append_left (by rw [List.length_map]; exact hj), List.getElem?_map, List.getElem?_eq_getElem hj] at hrep
      rw [hcell, List.getElem?_eq_getElem hj]
      have := int_inv hrep
      rw [this]; rfl

theorem natA_spec {x : AV} {n : Nat} {M : Mem} {v : Value} (h : natA x = some n) (r : Rep P M x v) : ∃ k, v = .int k n := by
  unfold natA at h
  split at h
  · rename_i k q
    split at h
    · injection h with h; subst h
      have := int_inv r
      exact ⟨k, by rw [this, Int.toNat_of_nonneg (by assumption)]⟩
    · cases h
  · cases h

def isCallOp : Op → Bool
  | .call { callee := .value _, .. } => true
  | .call { callee := .invoke _ _, .. } => true
  | _ => false

theorem core_sound {G : Gh} {env : List (Nat × AV)} {H : List (Option Blk)} {own : List Loc} {a : Act} {call : CallA} {ops : List Oper} {o : Oper} {r : Res} (g : GOk G w) (hH : HeapRel P G H w) (ow : Owns P G env H own (slotsOf a) w) (he : EnvRel P (G.mem w) env a) (hgl : G.lo ≤ call.lo)
    (hc : isCallOp o.op = false) (h : core call P ops o env H own = some r) (d : Nat) :
    ∃ v w' G', ((execOp a.eval o).run P w = .ok (.value v) w' ∨ ((execOp a.eval o).run P w = .ok .skip w' ∧ v = undef)) ∧ Done P G w env (slotsOf a) r d v w' G' := by
  have pureCase : ∀ x, pureOp P env o.op = some x → r = ⟨x, H, own, false⟩ → ∃ v w' G', ((execOp a.eval o).run P w = .ok (.value v) w' ∨ ((execOp a.eval o).run P w = .ok .skip w' ∧ v = undef)) ∧ Done P G w env (slotsOf a) r d v w' G' := by
    intro x hx hr
    obtain ⟨v, hv, rv⟩ := pureOp_sound (w := w) hx (he.ops _)
    subst hr
    exact ⟨v, w, G, .inl hv, done_same g hH ow d rv⟩
  have hid : G.f H.length = none := by
    cases hf : G.f H.length with
    | none => rfl
    | some b => have := (hH.dom _ _ hf).lt; omega
  have newCase : ∀ (k : Blk) (cs : Array Value), CellsRep P (G.mem w) k.cs cs → Nat.beq k.e LOOP = false → Done P G w env (slotsOf a) ⟨.ptr H.length 0, H ++ [some k], own, false⟩ d (.pointer (some ⟨w.heap.size, 0, none⟩)) (w.alloc (.cells cs k.e)) (G.map H.length w.heap.size cs.size) := by
    intro k cs hcs hke
    have hH1 : HeapRel P G (H ++ [some k]) w := by
      refine ⟨fun i b hf => (hH.dom i b hf).append _, fun i b k hf hk => ?_, fun i j b k l h1 h2 h3 h4 n1 n2 => ?_, fun i b k hf hk hn => ?_⟩
      · have := (hH.dom i b hf).lt
        rw [List.getElem?_append_left this] at hk
        exact hH.blk i b k hf hk
      · have q1 := (hH.dom i b h1).lt
        have q2 := (hH.dom j b h2).lt
        rw [List.getElem?_append_left q1] at h3
        rw [List.getElem?_append_left q2] at h4
        exact hH.inj i j b k l h1 h2 h3 h4 n1 n2
      · have := (hH.dom i b hf).lt
        rw [List.getElem?_append_left this] at hk
        exact hH.lim i b k hf hk hn
    have ow1 : Owns P G env (H ++ [some k]) own (slotsOf a) w := ⟨ow.slot, fun i off b k cs hm hf hk hb => by
      have := (hH.dom i b hf).lt
      rw [List.getElem?_append_left this] at hk
      exact ow.cell i off b k cs hm hf hk hb, fun i off hm => (ow.dom i off hm).append _⟩
    exact done_new (xs := k.cs) (e := k.e) g hH1 ow1 hid hcs (by rw [List.getElem?_append_right (Nat.le_refl _)]; simp) (fun off hm => by have := (ow.dom _ off hm).lt; omega) hke d
  obtain ⟨dst, op, ty, pos, after, guard⟩ := o
  simp only at hc pureCase
  unfold core at h
  simp only at h
  split at h
  case h_1 v =>
    injection h with h
    by_cases hb : (owns own (.slot v) && appDst ops dst) = true
    · rw [hb] at h; simp only [cond_true] at h; subst h
      rw [Bool.and_eq_true, owns_iff] at hb
      exact ⟨_, _, _, .inl rfl, done_slot g hH ow v d hb.1 (he v)⟩
    · have hb' : (owns own (.slot v) && appDst ops dst) = false := by simpa using hb
      rw [hb'] at h; simp only [cond_false] at h; subst h
      exact ⟨_, _, _, .inl rfl, done_same g hH ow d (he v)⟩
  case h_2 t ad =>
    split at h
    · rename_i p hp
      split at h
      · rename_i x hx
        have rp := he.opd hp
        obtain ⟨u, hu, ru, hcell⟩ := load_sound hx rp (fun id off b k _ hf hk => hH.blk id b k hf hk)
        have hrun : (execOp a.eval { dst := dst, op := .load t ad, type := ty, pos := pos, after := after, guard := guard }).run P w = .ok (.value u) w := by
          simp only [execOp, Sem.run_bind, hu, Result.andThen_ok, Sem.run_pure]
        split at h
        · rename_i id off
          injection h with h
          by_cases hb : (owns own (.cell id off) && appDst ops dst && (sizeT P t == some 1) && (isAggT P t == some false)) = true
          · rw [hb] at h; simp only [cond_true] at h; subst h
            simp only [Bool.and_eq_true, owns_iff, beq_iff_eq] at hb
            obtain ⟨⟨⟨hb1, hb2⟩, hb3⟩, hb4⟩ := hb
            generalize hav : a.eval ad = av at rp
            cases rp with
            | ptr _ _ b hf =>
              have hf' : G.f id = some b := hf
              unfold loadA at hx
              rw [hb3] at hx
              simp only at hx
              split at hx
              · rename_i cs hcs
                unfold readCells at hcs
                split at hcs
                · rename_i k hk
                  split at hcs
                  · rename_i hle0
                    obtain ⟨hke, hle⟩ := hle0
                    injection hcs with hcs
                    obtain ⟨ds, hd, hsz, hbs, hrep, hone⟩ := (hH.blk id b k hf' hk).1 hke
                    have hoff : off < k.cs.length := by omega
                    have hxe : k.cs.getD off .undef = x := by
                      have hcs1 : cs = [k.cs.getD off .undef] := by
                        rw [← hcs, List.getD_eq_getElem?_getD, List.getElem?_eq_getElem hoff]
                        apply List.ext_getElem?
                        intro i
                        cases i with
                        | zero => simp [List.getElem?_take, List.getElem?_drop, List.getElem?_eq_getElem hoff]
                        | succ i => simp [List.getElem?_take]
                      rw [hcs1] at hx
                      unfold ofCells at hx
                      rw [hb4] at hx
                      simp only at hx
                      split at hx
                      · injection hx
                      · cases hx
                    have hue : ds.getD off undef = u := by
                      have h1 := hcell id off b rfl hf' hb3 hb4
                      have hod : off < ds.size := by omega
                      have h2 : w.cell? ⟨b, off, none⟩ = some ds[off] := by simp [World.cell?, hd, hod]
                      rw [h2] at h1; injection h1 with h1
                      rw [← h1]; simp [Array.getD_eq_getD_getElem?, hod]
                    exact ⟨u, _, _, .inl hrun, done_cell g hH ow id off d hb1 hf' hk hd hxe hue ru⟩
                  · cases hcs
                · cases hcs
              · cases hx
          · have hb' : (owns own (.cell id off) && appDst ops dst && (sizeT P t == some 1) && (isAggT P t == some false)) = false := by simpa using hb
            rw [hb'] at h; simp only [cond_false] at h; subst h
            exact ⟨u, _, _, .inl hrun, done_same g hH ow d ru⟩
        · injection h with h; subst h
          exact ⟨u, _, _, .inl hrun, done_same g hH ow d ru⟩
      · cases h
    · cases h
  case h_3 e =>
    split at h
    · rename_i z hz
      split at h
      case isFalse => cases h
      rename_i hke
      injection h with h; subst h
      obtain ⟨zv, hzr, hzc⟩ := zero_sound (M := G.mem w) (w := w) hz
      refine ⟨_, _, _, .inl ?_, newCase ⟨e, z⟩ zv.cells hzc hke⟩
      simp only [execOp, Instr.alloc, Sem.run_bind, hzr, Result.andThen_ok, newVar, newRow, run_newObj, Sem.run_pure]
      rfl
    · cases h
  case h_4 e x =>
    split at h
    · rename_i y hy
      split at h
      · rename_i hpos
        injection h with h; subst h
        have ry := he.opd hy
        refine ⟨_, _, _, .inl ?_, newCase ⟨e, y.cells⟩ (a.eval x).cells (cells_of ry hpos.2) hpos.1⟩
        simp only [execOp, Instr.box, Sem.run_bind, Result.andThen_ok, newVar, newRow, run_newObj, Sem.run_pure]
        rfl
      · cases h
    · cases h
  case h_5 t ad x =>
    split at h
    · rename_i id off v hp hv
      split at h
      · rename_i H' hs
        injection h with h
        have := store_sound (xo := x) (d := d) g hH ow (storeL_some hs).2 (Nat.le_trans hgl (Nat.ble_eq.mp (storeL_some hs).1)) (he.opd hp) (he.opd hv) (by
          intro s hs'; subst hs'
          simp only [evalO, Option.some.injEq] at hv
          exact ⟨hv.symm, rfl⟩)
        obtain ⟨w', G', hrun, hd⟩ := this
        subst h
        refine ⟨undef, w', G', .inr ⟨?_, rfl⟩, ?_⟩
        · simp only [execOp, Sem.run_bind, hrun, Result.andThen_ok, Sem.run_pure]
        · exact hd
      · cases h
    · cases h
  case h_6 x =>
    split at h
    · rename_i v hv
      split at h
      · rename_i s
        injection h with h
        simp only [evalO, Option.some.injEq] at hv
        subst hv
        by_cases hb : owns own (.slot s) = true
        · rw [hb] at h; simp only [cond_true] at h; subst h
          exact ⟨_, _, _, .inl rfl, done_slot g hH ow s d (owns_iff.1 hb) (he s)⟩
        · have hb' : owns own (.slot s) = false := by simpa using hb
          rw [hb'] at h; simp only [cond_false] at h; subst h
          exact ⟨_, _, _, .inl rfl, done_same g hH ow d (he s)⟩
      · injection h with h; subst h
        exact ⟨_, _, _, .inl rfl, done_nils g hH ow d (he.opd hv)⟩
    · cases h
  case h_7 t len parts =>
    split at h
    · rename_i e ps hu hps
      split at h
      · rename_i sz z hs hz
        split at h
        · rename_i hcond
          split at h
          · rename_i cs hf
            split at h
            · rename_i xs hx
              injection h with h; subst h
              have hp := evalParts_rel parts.toList ps hps (he.ops _)
              obtain ⟨v, w', G', hrun, hm⟩ := buildSlice_sound (l := .slot d) g hu hs hz hcond.1 hcond.2.1 hcond.2.2 hf hx (qs := parts.map fun (i, x) => (i, a.eval x)) (by simpa using hp)
              exact ⟨v, w', G', .inl (by simp only [execOp, Sem.run_bind, hrun, Result.andThen_ok, Sem.run_pure]), done_made g hH ow hm true⟩
            · cases h
          · cases h
        · cases h
      · cases h
    · cases h
  case h_8 t len cap =>
    split at h
    · rename_i e n c hu hn hcp
      split at h
      · rename_i n' c' i z hn' hc' hi hz
        split at h
        · rename_i hcond
          split at h
          · rename_i x hx
            injection h with h; subst h
            obtain ⟨k1, e1⟩ := natA_spec hn' (he.opd hn)
            obtain ⟨k2, e2⟩ := natA_spec hc' (he.opd hcp)
            obtain ⟨v, w', G', hrun, hm⟩ := makeSlice_sound (l := .slot d) (k1 := k1) (k2 := k2) g hu hi hz hcond.1 hcond.2.1 hcond.2.2.1 hcond.2.2.2.1 hcond.2.2.2.2 hx
            exact ⟨v, w', G', .inl (by simp only [execOp, e1, e2, Sem.run_bind, hrun, Result.andThen_ok, Sem.run_pure]), done_made g hH ow hm true⟩
          · cases h
        · cases h
      · cases h
    · cases h
  case h_9 src d' x =>
    have fin : ∀ y z, evalO env x = some y → (Go.convert src d' (a.eval x)).run P w = .ok z w → ∀ q, Rep P (G.mem w) q z → r = ⟨q, H, own, false⟩ → ∃ v w' G', ((execOp a.eval { dst := dst, op := .convert src d' x, type := ty, pos := pos, after := after, guard := guard }).run P w = .ok (.value v) w' ∨ ((execOp a.eval { dst := dst, op := .convert src d' x, type := ty, pos := pos, after := after, guard := guard }).run P w = .ok .skip w' ∧ v = undef)) ∧ Done P G w env (slotsOf a) r d v w' G' := by
      intro y z hy hz q rq hr
      subst hr
      exact ⟨z, w, G, .inl (by simp only [execOp, Sem.run_bind, hz, Result.andThen_ok, Sem.run_pure]), done_same g hH ow d rq⟩
    split at h
    · rename_i e s hus hud hx
      split at h
      · rename_i hue hsz
        injection h with h; subst h
        have ev := str_inv (he.opd hx)
        have hrun := Lib.run_convert_string_bytes (P := P) w src d' e ⟨⟨s⟩⟩ hus hud hue
        have hbel := Lib.bytesWorld_below w e ⟨⟨s⟩⟩
        have hnew := Lib.bytesWorld_at_new w e ⟨⟨s⟩⟩
        have hsize := Lib.bytesWorld_size w e ⟨⟨s⟩⟩
        have hfl : ∀ l : List UInt8, flat (l.map fun b => AV.int .u8 b.toNat) = l.map fun b => AV.int .u8 b.toNat := by
          intro l
          induction l with
          | nil => rfl
          | cons b r ih => simp only [flat, List.map_cons, List.flatMap_cons] at ih ⊢; rw [ih]; rfl
        have hlen : (s.map fun b => AV.int .u8 (b.toNat : Int)).length = s.length := by simp
        have hall : ∀ x ∈ s.map (fun b => AV.int .u8 (b.toNat : Int)), x.cells.length = 1 := by
          intro x hx; obtain ⟨b, _, rfl⟩ := List.mem_map.1 hx; rfl
        have hbs : ByteArray.size ⟨⟨s⟩⟩ = s.length := by simp [ByteArray.size]
        have hrep := list_rep (P := P) g hbel hnew (e := e) (xs := s.map fun b => AV.int .u8 b.toNat) (cap := grownCap w s.length 0 e) (some (.slot d)) hsz (by omega) hall (by rw [hlen]; exact grownCap_ge w s.length 0 e) (by
          intro j hj
          rw [hfl, hlen] at hj
          have hcell := Lib.bytesWorld_cell w e ⟨⟨s⟩⟩ j (by rw [hbs]; exact hj)
          simp only [World.cell?, hnew] at hcell
          have hjs : j < (Lib.bytesCells w e ⟨⟨s⟩⟩).size := by
            rcases Nat.lt_or_ge j (Lib.bytesCells w e ⟨⟨s⟩⟩).size with h' | h'
            · exact h'
            · simp [Array.getElem?_eq_none h'] at hcell
          have e1 : (Lib.bytesCells w e ⟨⟨s⟩⟩).getD j undef = .int .u8 (s.getD j 0).toNat := by
            simp only [Option.isSome_none, Bool.false_eq_true, if_false] at hcell
            rw [Array.getD_eq_getD_getElem?, hcell]; rfl
          rw [hfl, e1]
          refine ⟨hjs, ?_, rfl⟩
          simp only [List.getD_eq_getElem?_getD, List.getElem?_map, List.getElem?_eq_getElem hj, Option.map_some, Option.getD_some]
          exact .int _ _)
        rw [hlen] at hrep
        rw [hbs] at hrun
        have gr := list_grow g hbel (s.length * 1) (some (.slot d))
        have hf : ∀ id b, (G.list w.heap.size (s.length * 1) (some (.slot d))).f id = some b → G.f id = some b := fun _ _ h => h
        have o' := owns_grow gr g hf ow
        refine ⟨_, _, G.list w.heap.size (s.length * 1) (some (.slot d)), .inl (by simp only [execOp, ev, Sem.run_bind, hrun, Result.andThen_ok, Sem.run_pure]), ⟨gr.ext g, list_gok g hbel (by omega) _ _, hH.grow gr g hf, hrep, fun s _ hs => o'.slot s hs, o'.cell, fun h => ?_, o'.dom⟩⟩
        have hle := Nat.ble_eq.mp h
        have hon := own_new (P := P) (l := .slot d) g hbel (.inr rfl) hnew (xs := s.map fun b => AV.int .u8 b.toNat) (sz := 1) (cap := grownCap w s.length 0 e) hsz (by omega) (by rw [hlen]; exact grownCap_ge w s.length 0 e) (grownCap_le_maxLen w s.length 0 e (by unfold maxLen; omega)) (by
          have := grownCap_ge w s.length 0 e
          simp only [Lib.bytesCells, hbs, Array.size_append, Array.size_map, Array.size_replicate]
          have h2 : (⟨s⟩ : Array UInt8).size = s.length := rfl
          omega)
        rw [hlen] at hon
        exact hon
      · cases h
    · rename_i e e' xs sp hus hud hx
      split at h
      · rename_i hue
        split at h
        · rename_i hee
          subst hee
          unfold plainRes at h
          cases hm : xs.mapM byteA with
          | none => rw [hm] at h; cases h
          | some s =>
            rw [hm] at h; simp only [Option.map_some, Option.some.injEq] at h
            exact fin _ _ hx (bytesOf_list rfl hus hue hud (he.opd hx) hm) _ (.str s) h.symm
        · cases h
      · cases h
    · rename_i e hus hud hx
      split at h
      · rename_i hue
        injection h with h
        have r0 := he.opd hx
        generalize hv : a.eval x = v at r0
        cases r0
        refine fin _ _ hx ?_ _ (.str []) h.symm
        rw [hv]
        exact run_convert_bytes_nil w src e hus hue 0 0 d' hud
      · cases h
    · rename_i y hx _ _ _
      unfold plainRes at h
      cases hm : convA P src d' y with
      | none => rw [hm] at h; cases h
      | some q =>
        rw [hm] at h; simp only [Option.map_some, Option.some.injEq] at h
        obtain ⟨z, hz, rz⟩ := conv_sound (w := w) hm (he.opd hx)
        exact fin _ _ hx hz _ rz h.symm
    · cases h
  case h_10 f args => cases hc
  case h_11 rv name args => cases hc
  case h_12 args argTypes =>
    split at h
    · rename_i s x ts tx hargs htys
      have ea : args = #[s, x] := by apply Array.ext'; simpa using hargs
      have et : argTypes = #[ts, tx] := by apply Array.ext'; simpa using htys
      subst ea; subst et
      have key : ∀ v w', (Builtin.append_ #[ts, tx] ty #[a.eval s, a.eval x]).run P w = .ok v w' → (execOp a.eval { dst := dst, op := .call { callee := .builtin .append, args := #[s, x], argTypes := #[ts, tx] }, type := ty, pos := pos, after := after, guard := guard }).run P w = .ok (.value v) w' := by
        intro v w' hl
        simp only [execOp, resolve, Sem.run_bind, Sem.run_pure, Result.andThen_ok, invoke, builtin, List.map_toArray, List.map_cons, List.map_nil, hl]
      unfold appendA at h
      split at h
      · rename_i e av bv hts hs hx
        split at h
        · rename_i ys i z hty hi hz
          have hsz : sizeT P e = some i.size := by simp [sizeT, hi]
          split at h
          · -- onto nil
            split at h
            · rename_i hcond
              injection h with h; subst h
              have r0 := he.opd hs
              generalize hsv : a.eval s = sv at r0 key
              cases r0
              obtain ⟨v', w', G', hrun, hext, hgok, hrep, hown, hblk, hf, hbs, hoo⟩ := append_sound (ty := ty) (xs := []) (l := .slot d) g hts hi hz hcond.2.2.2 hty (he.opd hx) hcond.2.2.1 (by simpa using hcond.2.1) (by simpa using hcond.1) (cells := []) (v := .slice none 0 0) (RowF.nil w e i.size) (fun b hb => by simp [Value.ownBlock] at hb) (by simp) (fun j hj => by simp at hj)
              exact ⟨v', w', G', .inl (key _ _ hrun), (done_append (vb := none) g hH (fun b e => by cases e) hext hgok (fun b hlt _ => hblk b hlt (by simp [Value.ownBlock])) hf hbs hoo hrep hown (fun s _ hm => ow.slot s hm) ow.cell ow.dom).sub (fun l hl => mem_dropO hl)⟩
            · cases h
          · -- onto a list whose end is one's own
            rename_i e' xs
            split at h
            · rename_i t
              split at h
              · rename_i hcond
                obtain ⟨c1, c2, c3, c4, c5, c6⟩ := hcond
                subst c2
                injection h with h; subst h
                have r0 := he.opd hs
                simp only [evalO, Option.some.injEq] at hs
                have ho := ow.slot t (owns_iff.1 c1)
                rw [hs] at ho
                have ho' : OwnAt P (G.ren (.slot t) (.slot d)) w (.slot d) (.lst e' xs []) (slotsOf a t) := ren_own ho _
                obtain ⟨sz, cells, h1, h2, h3, h4⟩ := ho' e' xs rfl
                obtain rfl : sz = i.size := by rw [hsz] at h1; exact (Option.some.inj h1).symm
                have hev : a.eval (.tmp t) = slotsOf a t := rfl
                have hxl : (∀ x ∈ xs, x.cells.length = i.size) ∧ (∀ j, j < cells.length → Rep P (G.mem w) ((flat xs).getD j .undef) (cells.getD j undef) ∧ (cells.getD j undef).oneCell' = true) := by
                  rw [hev] at r0
                  generalize hsv : slotsOf a t = sv at r0 h3
                  cases r0 with
                  | lst _ _ _ ad cap sz b off c hsz' hz hall hcap ha hc' hr h1' =>
                    obtain rfl : i.size = sz := by rw [hsz] at hsz'; exact Option.some.inj hsz'
                    simp only [List.append_nil] at hall ha hc' hr h1'
                    refine ⟨hall, ?_⟩
                    intro j hj
                    have hfl := flat_len _ hall
                    have hcl : cells.length = xs.length * i.size := h3.1
                    have hjf : j < (flat xs).length := by omega
                    have hne : xs ≠ [] := by
                      intro e0
                      rw [e0] at hcl
                      simp at hcl
                      rw [hcl] at hj
                      simp at hj
                    obtain rfl := ha hne
                    rcases h3.2 with ⟨hv, _⟩ | ⟨b', cap', cur', hv, _, ⟨fr', hb', _⟩, hnc, hcm, hcs, htake⟩
                    · cases hv
                    · injection hv with q1 q2 q3
                      injection q1 with q1
                      injection q1 with q1 q4
                      subst q1; subst q4
                      have hcell := pm_cell (hc' j hjf)
                      have hjc : j < cur'.size := by
                        have := Nat.mul_le_mul_right i.size hnc
                        omega
                      have e1 : w.cell? ⟨b, 0 + j, none⟩ = some cur'[j] := by simp [World.cell?, hb', hjc]
                      rw [e1] at hcell; injection hcell with hcell
                      have e2 := take_getD cur' (xs.length * i.size) j cells htake (by omega) (by have := Nat.mul_le_mul_right i.size hnc; omega)
                      have e3 : cur'.getD j undef = c j := by rw [← hcell]; simp [Array.getD_eq_getD_getElem?, hjc]
                      rw [e2, e3]
                      exact ⟨hr j hjf, h1' j hjf⟩
                obtain ⟨v', w', G', hrun, hext, hgok, hrep, hown, hblk, hf, hbs, hoo⟩ := append_sound (ty := ty) (l := .slot d) (ren_gok g (.slot t) (.slot d)) hts hi hz c6 hty (he.opd hx) c5 c4 c3 h3 h4 hxl.1 hxl.2
                refine ⟨v', w', G', .inl (key _ _ hrun), ?_⟩
                have dn := done_append (env := env) (own := drop own (.slot t)) (tt := slotsOf a) (vb := (slotsOf a t).ownBlock) (ren_gok g (.slot t) (.slot d)) (ren_heap hH (.slot t) (.slot d)) (fun b e => (h4 b e).1) hext hgok hblk hf hbs hoo hrep hown
                  (fun s _ hm => ren_own_ne (ow.slot s (mem_drop.1 hm).1) (mem_drop.1 hm).2 _) (fun id off b k cs hm hf' hk hb => ren_own_ne (ow.cell id off b k cs (mem_drop.1 hm).1 hf' hk hb) (mem_drop.1 hm).2 _) (fun id off hm => ow.dom id off (mem_drop.1 hm).1)
                exact ⟨(ren_ext G _ _).trans dn.ext, dn.ok, dn.heap, dn.rep, dn.slot, dn.cell, dn.gives, dn.dom⟩
              · cases h
            · cases h
          · cases h
        · cases h
      · cases h
    · cases h
  case h_13 =>
    cases hp : pureOp P env op with
    | none => rw [hp] at h; cases h
    | some x => rw [hp] at h; injection h with h; exact pureCase x hp h.symm

theorem newAt_sound {G : Gh} {env : List (Nat × AV)} {H : List (Option Blk)} {own : List Loc} {a : Act} {o : Oper} {r : Res} {id : Nat} (g : GOk G w) (hH : HeapRel P G H w) (ow : Owns P G env H own (slotsOf a) w) (he : EnvRel P (G.mem w) env a)
    (h : newAt P o env H own id = some r) (d : Nat) :
    ∃ v w' G', (execOp a.eval o).run P w = .ok (.value v) w' ∧ Done P G w env (slotsOf a) r d v w' G' := by
  unfold newAt at h
  split at h
  case h_2 => cases h
  rename_i hhole
  have hlt : id < H.length := (List.getElem?_eq_some_iff.1 hhole).1
  have notLive : ¬ Live H id := by rintro ⟨k, hk⟩; rw [hhole] at hk; cases hk
  have hid : G.f id = none := by
    cases hf : G.f id with
    | none => rfl
    | some b => exact absurd (hH.dom _ _ hf) notLive
  have hne : ∀ i b, G.f i = some b → i ≠ id := fun i b hf e => by rw [e, hid] at hf; cases hf
  have hole : ∀ (k : Blk), HeapRel P G (H.set id (some k)) w ∧ Owns P G env (H.set id (some k)) own (slotsOf a) w := by
    intro k
    have hH1 : HeapRel P G (H.set id (some k)) w := by
      refine ⟨fun i b hf => (hH.dom i b hf).set _ _, fun i b k' hf hk => ?_, fun i j b k' l h1 h2 h3 h4 n1 n2 => ?_, fun i b k' hf hk hn => ?_⟩
      · rw [List.getElem?_set_ne (hne i b hf).symm] at hk
        exact hH.blk i b k' hf hk
      · rw [List.getElem?_set_ne (hne i b h1).symm] at h3
        rw [List.getElem?_set_ne (hne j b h2).symm] at h4
        exact hH.inj i j b k' l h1 h2 h3 h4 n1 n2
      · rw [List.getElem?_set_ne (hne i b hf).symm] at hk
        exact hH.lim i b k' hf hk hn
    have ow1 : Owns P G env (H.set id (some k)) own (slotsOf a) w := ⟨ow.slot, fun i off b k' cs hm hf hk hb => by
      rw [List.getElem?_set_ne (hne i b hf).symm] at hk
      exact ow.cell i off b k' cs hm hf hk hb, fun i off hm => (ow.dom i off hm).set _ _⟩
    exact ⟨hH1, ow1⟩
  have newCase : ∀ (k : Blk) (cs : Array Value), CellsRep P (G.mem w) k.cs cs → Nat.beq k.e LOOP = false → Done P G w env (slotsOf a) ⟨.ptr id 0, H.set id (some k), own, false⟩ d (.pointer (some ⟨w.heap.size, 0, none⟩)) (w.alloc (.cells cs k.e)) (G.map id w.heap.size cs.size) := by
    intro k cs hcs hke
    obtain ⟨hH1, ow1⟩ := hole k
    exact done_new (xs := k.cs) (e := k.e) g hH1 ow1 hid hcs (by rw [List.getElem?_set_self hlt]) (fun off hm => notLive (ow.dom _ off hm).1) hke d
  obtain ⟨dst, op, ty, pos, after, guard⟩ := o
  simp only at h
  split at h
  · rename_i e
    split at h
    · rename_i z hz
      split at h
      case isFalse => cases h
      rename_i hke
      injection h with h; subst h
      obtain ⟨zv, hzr, hzc⟩ := zero_sound (M := G.mem w) (w := w) hz
      refine ⟨_, _, _, ?_, newCase ⟨e, z⟩ zv.cells hzc hke⟩
      simp only [execOp, Instr.alloc, Sem.run_bind, hzr, Result.andThen_ok, newVar, newRow, run_newObj, Sem.run_pure]
      rfl
    · cases h
  · rename_i e x
    split at h
    · rename_i y hy
      split at h
      · rename_i hpos
        injection h with h; subst h
        have ry := he.opd hy
        refine ⟨_, _, _, ?_, newCase ⟨e, y.cells⟩ (a.eval x).cells (cells_of ry hpos.2) hpos.1⟩
        simp only [execOp, Instr.box, Sem.run_bind, Result.andThen_ok, newVar, newRow, run_newObj, Sem.run_pure]
        rfl
      · cases h
    · cases h
  · injection h with h; subst h
    obtain ⟨hH1, ow1⟩ := hole (mapBlk [])
    refine ⟨_, _, _, ?_, newmapAt_done g hH1 ow1 hid (by rw [List.getElem?_set_self hlt]) (fun off hm => notLive (ow.dom _ off hm).1) d⟩
    simp only [execOp, Instr.makeMap, Option.map_none, Sem.run_bind, Result.andThen_ok, run_newObj, Sem.run_pure]
    rfl
  · cases h

end
end Go.Proofs.YtomheegfobcijaaGreatDoor.Am

/- The abstract machine is right: operations on maps. -/
namespace Go.Proofs.YtomheegfobcijaaGreatDoor.Am
set_option linter.unusedVariables false
set_option linter.unusedSimpArgs false
open Go.RowKit

section
variable {P : Program} {w : World}

theorem coreM_sound {G : Gh} {env : List (Nat × AV)} {H : List (Option Blk)} {own : List Loc} {a : Act} {lo : Nat} {o : Oper} {r : Res} (g : GOk G w) (hH : HeapRel P G H w) (ow : Owns P G env H own (slotsOf a) w) (he : EnvRel P (G.mem w) env a) (hgl : G.lo ≤ lo)
    (h : coreM lo P o env H own = some r) (d : Nat) :
    ∃ v w' G', ((execOp a.eval o).run P w = .ok (.value v) w' ∨ ((execOp a.eval o).run P w = .ok .skip w' ∧ v = undef)) ∧ Done P G w env (slotsOf a) r d v w' G' := by
  obtain ⟨dst, op, ty, pos, after, guard⟩ := o
  unfold coreM at h
  simp only at h
  split at h
  case h_1 t =>
    injection h with h; subst h
    refine ⟨_, _, _, .inl ?_, newmap_done g hH ow d⟩
    simp only [execOp, Instr.makeMap, Option.map_none, Sem.run_bind, Result.andThen_ok, run_newObj, Sem.run_pure]
    rfl
  case h_2 t x i ok =>
    split at h
    · rename_i p q hp hq
      unfold plainRes at h
      cases hl : lookupA P H t p q ok with
      | none => rw [hl] at h; cases h
      | some y =>
        rw [hl] at h; simp only [Option.map_some, Option.some.injEq] at h; subst h
        obtain ⟨z, hz, rz⟩ := lookup_sound hH hl (he.opd hp) (he.opd hq)
        exact ⟨z, w, G, .inl (by simp only [execOp, Sem.run_bind, hz, Result.andThen_ok, Sem.run_pure]), done_same g hH ow d rz⟩
    · cases h
  case h_3 t m k v =>
    split at h
    · rename_i p q y hp hq hy
      split at h
      · rename_i id l hu
        cases hb : Nat.ble lo id with
        | false => rw [hb] at h; cases h
        | true =>
          rw [hb] at h; simp only [cond_true, Option.some.injEq] at h; subst h
          obtain ⟨w', hr, hd⟩ := upd_sound g hH ow hu (Nat.le_trans hgl (Nat.ble_eq.mp hb)) (he.opd hp) (he.opd hq) (he.opd hy) d
          exact ⟨undef, w', G, .inr ⟨by simp only [execOp, Sem.run_bind, hr, Result.andThen_ok, Sem.run_pure], rfl⟩, hd⟩
      · cases h
    · cases h
  case h_4 args argTypes =>
    split at h
    · rename_i m k t kt' hargs htys
      have ea : args = #[m, k] := by apply Array.ext'; simpa using hargs
      have et : argTypes = #[t, kt'] := by apply Array.ext'; simpa using htys
      subst ea; subst et
      split at h
      · rename_i p q hp hq
        split at h
        · rename_i id l hu
          cases hb : Nat.ble lo id with
          | false => rw [hb] at h; cases h
          | true =>
            rw [hb] at h; simp only [cond_true, Option.some.injEq] at h; subst h
            obtain ⟨w', hr, hd⟩ := del_sound (ty := ty) (kt' := kt') g hH ow hu (Nat.le_trans hgl (Nat.ble_eq.mp hb)) (he.opd hp) (he.opd hq) d
            exact ⟨_, w', G, .inl (by simp only [execOp, resolve, Sem.run_bind, Sem.run_pure, Result.andThen_ok, invoke, builtin, List.map_toArray, List.map_cons, List.map_nil, hr]), hd⟩
        · cases h
      · cases h
    · cases h
  case h_5 args argTypes =>
    split at h
    · rename_i x t hargs htys
      have ea : args = #[x] := by apply Array.ext'; simpa using hargs
      have et : argTypes = #[t] := by apply Array.ext'; simpa using htys
      subst ea; subst et
      split at h
      · rename_i kt et hu
        split at h
        · rename_i p hp
          unfold plainRes at h
          cases hl : entriesA H p with
          | none => rw [hl] at h; cases h
          | some l =>
            rw [hl] at h; simp only [Option.map_some, Option.some.injEq] at h; subst h
            have hr := len_map (ty := ty) hH hu hl (he.opd hp)
            exact ⟨_, w, G, .inl (by simp only [execOp, resolve, Sem.run_bind, Sem.run_pure, Result.andThen_ok, invoke, builtin, List.map_toArray, List.map_cons, List.map_nil, hr]), done_same g hH ow d (.int _ _)⟩
        · cases h
      · cases h
    · cases h
  case h_6 => cases h
end
end Go.Proofs.YtomheegfobcijaaGreatDoor.Am
