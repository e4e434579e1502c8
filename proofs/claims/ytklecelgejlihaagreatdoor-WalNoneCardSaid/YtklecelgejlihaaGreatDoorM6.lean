/- Bytes and numbers: what the library's functions answer, as plain functions on bytes, and that these are the shelf's. -/
import Derived.Test.YtklecelgejlihaaGreatDoorM5
import Derived.Lib.Split
import Derived.Lib.CutLaws
import Derived.Lib.IndexBytes
import Derived.Lib.ItoaNum
import Derived.Test.YtklecelgejlihaaGreatDoorProg
import Derived.Maps.RangeRun
import Derived.WalkKit
import Derived.Below
import Derived.Shelf.SlMaps.Clone
import Derived.Ground.GgzProg
import Derived.Ground.SlgmProg
import Derived.Ground.SlmcProg
import Derived.Shelf.SlIter.Nil
import Derived.Shelf.SortM.Plain
import Derived.Shelf.SortM.SortNone
import Derived.Shelf.Strings.Builder1
import Derived.Shelf.Strings.Builder2
import Derived.Shelf.Strings.BuilderF
import Derived.Shelf.Strconv.Itoa0
import Derived.Shelf.Strconv.Itoa1
import Derived.Shelf.LaysM
import Derived.Shelf.Strconv.Itoa2
import Derived.Shelf.Strconv.Itoa3
import Derived.Shelf.Sort.Plain
import Derived.Shelf.Strings.Prefix
import Derived.Shelf.Bits.Mul64
import Derived.Shelf.Strings.Repeat
import Derived.Shelf.Slices.In.SortNone
import Derived.Shelf.SlIter.Collect
import Derived.KernelRfl
/- Bytes and numbers: what the library's functions answer, as plain functions on bytes, and that these are the shelf's. -/
namespace Go.Proofs.YtklecelgejlihaaGreatDoor.Am
open Go.RowKit
set_option linter.unusedVariables false
set_option linter.unusedSimpArgs false

abbrev Bytes := List UInt8
/-- A number's digits. -/
def digs : Nat → Nat → Bytes
  | 0, u => []
  | n + 1, u => if u < 10 then [UInt8.ofNat (48 + u)] else digs n (u / 10) ++ [UInt8.ofNat (48 + u % 10)]
def numeral (u : Nat) : Bytes := digs 20 u
theorem digs_dec : ∀ (n u : Nat), u < 10 ^ (n + 1) → digs (n + 1) u = Lib.decDigits u
  | 0, u, h => by
    have h : u < 10 := by simpa using h
    rw [digs, Lib.decDigits, if_pos h, dif_pos h]
  | n + 1, u, h => by
    rw [digs, Lib.decDigits]
    split
    · rfl
    · rw [digs_dec n (u / 10) (by rw [Nat.pow_succ] at h; omega)]
theorem numeral_dec {u : Nat} (h : u < 18446744073709551616) : numeral u = Lib.decDigits u := digs_dec 19 u (by omega)
theorem args_one' {P : Program} {M : Mem} {a : AV} {vals : Array Value} (h : ArgsRep P M [a] vals) : ∃ v, vals = #[v] ∧ Rep P M a v := by
  obtain ⟨h1, h2⟩ := h
  have e : vals.size = 1 := h1
  refine ⟨vals[0], ?_, ?_⟩
  · apply Array.ext
    · simpa using e
    · intro i h3 h4
      have : i = 0 := by simp at h4; omega
      subst this; rfl
  · have := h2 0 (by simp); simpa [Array.getD_eq_getD_getElem?, e] using this
theorem args_two {P : Program} {M : Mem} {a b : AV} {vals : Array Value} (h : ArgsRep P M [a, b] vals) : ∃ v u, vals = #[v, u] ∧ Rep P M a v ∧ Rep P M b u := by
  obtain ⟨h1, h2⟩ := h
  have e : vals.size = 2 := h1
  refine ⟨vals[0], vals[1], ?_, ?_, ?_⟩
  · apply Array.ext
    · simpa using e
    · intro i h3 h4
      have : i = 0 ∨ i = 1 := by simp at h4; omega
      rcases this with rfl | rfl <;> rfl
  · have := h2 0 (by simp); simpa [Array.getD_eq_getD_getElem?, e] using this
  · have := h2 1 (by simp); simpa [Array.getD_eq_getD_getElem?, e] using this
theorem flat_strs (xs : List Bytes) : flat (xs.map AV.str) = xs.map AV.str := by
  induction xs with
  | nil => rfl
  | cons x r ih => show AV.str x :: flat (r.map AV.str) = _; rw [ih]; rfl
end Go.Proofs.YtklecelgejlihaaGreatDoor.Am

/- Functions of which it is told by heart what they answer, by their arguments and by what lies in memory; nobody's memory is turned. -/
namespace Go.Proofs.YtklecelgejlihaaGreatDoor.Am
set_option linter.unusedVariables false
set_option linter.unusedSimpArgs false
open Go.RowKit

abbrev HF := List (Option Blk) → List AV → Option AV
def reads_ (F : HF) : ShortF := fun _ args H own => (F H args).map fun x => (x, H, own)
/-- What a contract says of a function. -/
def ReadsAt (P : Program) (f : FuncId) (F : HF) : Prop := ∀ H args x, F H args = some x → ∀ (G : Gh) (w : World) (vals : Array Value), GOk G w → HeapRel P G H w → ArgsRep P (G.mem w) args vals →
  Calls P f vals w fun e w' => ∃ v, e = .returned v ∧ Below w.heap.size w w' ∧ (Rep P (G.mem w') x v ∨ ∃ q n, w.heap.size ≤ q ∧ q < w'.heap.size ∧ Rep P ((G.list q n none).mem w') x v)
def Fills (F : HF) : Prop := ∀ H args x p k, F H args = some x → H[p]? = some none → F (H.set p (some k)) args = some x
section
variable {P : Program}
theorem list_grow_at {G : Gh} {w : World} (g : GOk G w) {w' : World} (hb : Below w.heap.size w w') {q : Nat} (hq : w.heap.size ≤ q) (n : Nat) (o : Option Loc) : Grow G w (G.list q n o) w' where
  below := hb
  lim := fun b hb => upd_ne _ _ (by omega)
  owner := fun b hb => upd_ne _ _ (by omega)
  bs := fun _ _ => rfl
  f := fun _ _ h => h
  fnew := fun _ _ h => .inl h
theorem list_gok_at {G : Gh} {w : World} (g : GOk G w) {w' : World} (hB : Below w.heap.size w w') {q : Nat} (hq : w.heap.size ≤ q) (hb : q < w'.heap.size) (n : Nat) (o : Option Loc) : GOk (G.list q n o) w' where
  fin := fun i b h => by
    obtain ⟨h1, h3⟩ := g.fin i b h
    exact ⟨by have := hB.size; omega, by show upd _ _ _ b = none; rw [upd_ne _ _ (by omega)]; exact h3⟩
  new := fun b hb' => by
    obtain ⟨h1, h2, h3⟩ := g.new b (by omega)
    exact ⟨by show upd _ _ _ b = 0; rw [upd_ne _ _ (by omega)]; exact h1, by show upd _ _ _ b = none; rw [upd_ne _ _ (by omega)]; exact h2, h3⟩
  held := ((list_grow_at g hB hq n o).ext g).held g.held
theorem list_rep_at {G : Gh} {w : World} (g : GOk G w) {w' : World} (hb : Below w.heap.size w w') {q : Nat} (hq : w.heap.size ≤ q) {cs : Array Value} {e0 : TypeId} {fr : Nat × Nat} (hn : w'.heap[q]? = some (.cells cs e0 fr)) {e : TypeId} {xs : List AV} {sz cap : Nat} (o : Option Loc)
    (hsz : sizeT P e = some sz) (hz : 0 < sz) (hall : ∀ x ∈ xs, x.cells.length = sz) (hcap : xs.length ≤ cap)
    (hr : ∀ j, j < (flat xs).length → j < cs.size ∧ Rep P (G.mem w) ((flat xs).getD j .undef) (cs.getD j undef) ∧ (cs.getD j undef).oneCell' = true) :
    Rep P ((G.list q (xs.length * sz) o).mem w') (.lst e xs []) (.slice (some ⟨q, 0, none⟩) xs.length cap) := by
  have hfl := flat_len xs hall
  refine .lst e xs [] _ cap sz q 0 (fun j => cs.getD j undef) hsz hz (by simpa using hall) (by simpa using hcap) (fun _ => rfl) ?_ ?_ ?_
  · intro j hj
    simp only [List.append_nil] at hj
    obtain ⟨h1, _, _⟩ := hr j hj
    show pmOf w' _ _ _ = _
    unfold pmOf
    have : (G.list q (xs.length * sz) o).lim q = xs.length * sz := upd_same _ _ _
    rw [this, if_pos (by omega)]
    simp [World.cell?, hn, h1]
  · intro j hj
    simp only [List.append_nil] at hj ⊢
    exact ((list_grow_at g hb hq _ o).ext g).rep (hr j hj).2.1
  · intro j hj
    simp only [List.append_nil] at hj
    exact (hr j hj).2.2
theorem reads_ok {f : FuncId} {F : HF} (h : ReadsAt P f F) (hf : Fills F) : ShortOk P f (reads_ F) where
  sound := by
    intro lo f1 args H own out hc G w vals g hH ho ha
    simp only at hc
    split at hc
    case isFalse => cases hc
    rename_i he
    subst he
    unfold reads_ at hc
    cases hx : F H args with
    | none => rw [hx] at hc; cases hc
    | some x =>
      rw [hx] at hc
      injection hc with hc
      subst hc
      refine (h H args x hx G w vals g hH ha).mono ?_
      rintro e w' ⟨v, rfl, hb, hr | ⟨q, n, hq, hlt, hr⟩⟩
      · exact ⟨v, G, rfl, ⟨(below_grow hb).ext g, below_gok g hb, hH.grow (below_grow hb) g (fun _ _ h => h), hr, cellOwns_grow (below_grow hb) g (fun _ _ h => h) ho⟩⟩
      · exact ⟨v, _, rfl, ⟨(list_grow_at g hb hq n none).ext g, list_gok_at g hb hq hlt n none, hH.grow (list_grow_at g hb hq n none) g (fun _ _ h => h), hr, cellOwns_grow (list_grow_at g hb hq n none) g (fun _ _ h => h) ho⟩⟩
  loc := by
    intro lo
    constructor
    · intro f args H own x H' own' h _
      simp only at h
      split at h
      case isFalse => cases h
      unfold reads_ at h
      cases hx : F H args with
      | none => rw [hx] at h; cases h
      | some y => rw [hx] at h; injection h with h; injection h with h1 h; injection h with h2 h3; subst h2; exact Lock.refl _ _
    · intro f args H own x H' own' p k h hp
      simp only at h ⊢
      split at h
      case isFalse => cases h
      rename_i he
      rw [if_pos he]
      unfold reads_ at h ⊢
      cases hx : F H args with
      | none => rw [hx] at h; cases h
      | some y =>
        rw [hx] at h; injection h with h; injection h with h1 h; injection h with h2 h3; subst h1 h2 h3
        exact ⟨hp, by rw [hf H args y p k hx hp]; rfl⟩

/-- A block of cells. -/
def getBlk (H : List (Option Blk)) (id : Nat) : Option Blk :=
  match H[id]? with
  | some (some k) => cond (Nat.beq k.e LOOP) none (some k)
  | _ => none
theorem getBlk_some {H : List (Option Blk)} {id : Nat} {k : Blk} (h : getBlk H id = some k) : H[id]? = some (some k) ∧ Nat.beq k.e LOOP = false := by
  unfold getBlk at h
  split at h
  · rename_i k' hk
    cases hb : Nat.beq k'.e LOOP with
    | true => rw [hb] at h; cases h
    | false => rw [hb] at h; injection h with h; subst h; exact ⟨hk, hb⟩
  · cases h
theorem getBlk_fill {H : List (Option Blk)} {id p : Nat} {k k' : Blk} (h : getBlk H id = some k) (hp : H[p]? = some none) : getBlk (H.set p (some k')) id = some k := by
  have hne : p ≠ id := by rintro rfl; rw [(getBlk_some h).1] at hp; cases hp
  unfold getBlk at h ⊢
  rw [List.getElem?_set_ne hne]; exact h
theorem getMap_fill {H : List (Option Blk)} {id p : Nat} {l : List (AV × AV)} {k' : Blk} (h : getMap H id = some l) (hp : H[p]? = some none) : getMap (H.set p (some k')) id = some l := by
  have hne : p ≠ id := by rintro rfl; rw [getMap_some h] at hp; cases hp
  unfold getMap at h ⊢
  rw [List.getElem?_set_ne hne]; exact h
theorem blk_of {G : Gh} {H : List (Option Blk)} {w : World} (hH : HeapRel P G H w) {id b : Nat} {k : Blk} (hf : G.f id = some b) (h : getBlk H id = some k) : ∃ cs, w.heap[b]? = some (.cells cs k.e (0, 0)) ∧ (∀ j, j < k.cs.length → w.cell? ⟨b, j, none⟩ = some (cs.getD j undef)) ∧
    ∀ j, j < k.cs.length → Rep P (G.mem w) (k.cs.getD j .undef) (cs.getD j undef) := by
  obtain ⟨h1, h2⟩ := getBlk_some h
  obtain ⟨cs, q1, q2, _, q4, _⟩ := blk_cell (hH.blk id b k hf h1) h2
  exact ⟨cs, q1, q2, q4⟩
end
end Go.Proofs.YtklecelgejlihaaGreatDoor.Am

/- disk.Used, by heart: how many bytes all files have, whatever order a range over the map has. -/
namespace Go.Proofs.YtklecelgejlihaaGreatDoor.Am
open Go.RowKit Go.Maps
set_option linter.unusedVariables false
set_option linter.unusedSimpArgs false
theorem run_entry_at {P : Program} (w : World) (r m since clock : Nat) (seen : Array Nat) (es : Array MapEntry) (e : MapEntry) (hr : w.heap[r]? = some (.mapIter (some m) since (seen.push e.born) clock)) (hb : w.heap[m]? = some (.map es clock)) (he : e ∈ es.toList) (hn : (es.toList.map (·.born)).Nodup) :
    (Instr.entry (.pointer (some ⟨r, 0, none⟩))).run P w = .ok (.tuple #[e.key, e.val]) w := by
  have hf : es.find? (·.born == e.born) = some e := by rw [← Array.find?_toList]; exact find_born e es.toList hn he
  simp only [Instr.entry, getObj, Sem.run_bind, Sem.run, hr, hb, Result.andThen, Array.back?_push, bne_self_eq_false, Bool.false_eq_true, if_false, hf]
  rfl
/-- How long the file is to which a pointer leads. -/
def fileLen (w : World) : Value → Int
  | .pointer (some a) => match w.cell? a with
    | some (.string s) => s.size
    | _ => 0
  | _ => 0
def sized (w : World) (es : List MapEntry) : List MapEntry := es.map fun e => { e with val := .int .i64 (fileLen w e.val) }
theorem sized_born (w : World) (es : List MapEntry) : (sized w es).map (·.born) = es.map (·.born) := by
  unfold sized; rw [List.map_map]; rfl
theorem sized_bound (w : World) : ∀ (es : List MapEntry) (seen : Array Nat), (∀ x ∈ es, 0 ≤ fileLen w x.val) → 0 ≤ seenSum (sized w es) seen ∧ seenSum (sized w es) seen ≤ (es.map fun e => fileLen w e.val).sum
  | [], _, _ => by simp [sized, seenSum]
  | x :: l, seen, h => by
    have ih := sized_bound w l seen fun y hy => h y (by simp [hy])
    have hx := h x (by simp)
    unfold sized at ih ⊢
    simp only [List.map_cons, seenSum, List.sum_cons, valOf]
    split <;> omega
theorem seenSum_all' (w : World) (es : Array MapEntry) (seen : Array Nat) (h0 : (leftOf es seen).size = 0) : seenSum (sized w es.toList) seen = (es.toList.map fun e => fileLen w e.val).sum := by
  rw [seenSum_full seen _ fun x hx => ?_]
  · unfold sized; rw [List.map_map]; rfl
  · unfold sized at hx
    obtain ⟨y, hy, rfl⟩ := List.mem_map.1 hx
    exact all_seen es seen h0 y hy
theorem fileLen_nonneg (w : World) (v : Value) : 0 ≤ fileLen w v := by
  unfold fileLen
  split
  · split <;> omega
  · omega
set_option maxRecDepth 100000 in
theorem used_walk (w : World) (b m : Nat) (cs : Array Value) (fr : Nat × Nat) (es : Array MapEntry) (clock : Nat) (hb : w.heap[b]? = some (.cells cs 86 fr)) (h3 : w.cell? ⟨b, 3, none⟩ = some (.bool false)) (h4 : w.cell? ⟨b, 4, none⟩ = some (.map (some m)))
    (hm : w.heap[m]? = some (.map es clock)) (hst : MapKept.Stamped es clock) (hval : ∀ x ∈ es.toList, ∃ a s, x.val = .pointer (some ⟨a, 0, none⟩) ∧ w.cell? ⟨a, 0, none⟩ = some (.string s)) (hsum : (es.toList.map fun e => fileLen w e.val).sum ≤ 4611686018427387904) :
    Calls Tryz.prog 43 #[.pointer (some ⟨b, 0, none⟩)] w fun e w' => e = .returned (.int .i64 ((es.toList.map fun e => fileLen w e.val).sum)) ∧ Below w.heap.size w w' := by
  have hst2 := (MapKept.stamped_iff es clock).1 hst
  have hrg := run_range_map (P := Tryz.prog) w 83 9 71 m es clock Tryz.underlying83 hm
  have hq := fun w => run_eql_map_nil_sl (P := Tryz.prog) w 83 _ _ (some m) Tryz.underlying83
  go_enter Tryz.func43, Tryz.ntmps43
  go_wp2

  go_loopw [3] (fun n wr => ∃ (seen : Array Nat) (c0 : Nat), n = .int .i64 (seenSum (sized w es.toList) seen) ∧ wr.heap[w.heap.size]? = some (.mapIter (some m) clock seen c0) ∧ clock ≤ c0 ∧ Below w.heap.size w wr)
    (fun _ wr => (leftOf es (wr.iterSeen w.heap.size)).size)
  case atStart =>
    exact ⟨#[], clock, by rw [seenSum_none], heap_alloc_new w _, Nat.le_refl _, (Below.refl _ w).alloc (Nat.le_refl _) _⟩
  case round =>
    obtain ⟨seen, c0, rfl, hr, hc0, hB⟩ := hrel
    have hlt : m < w.heap.size := (Array.getElem?_eq_some_iff.1 hm).1
    have hm' : wr.heap[m]? = some (.map es clock) := (hB.block m hlt).trans hm
    have hseen : wr.iterSeen w.heap.size = seen := by unfold World.iterSeen; rw [hr]
    rcases run_next_at (P := Tryz.prog) wr 0 w.heap.size m clock c0 seen es clock hr hm' hst2.1 hc0 with ⟨h0, hrun⟩ | ⟨e, he, w1, hw1, hrun⟩
    · go_wp2
      go_ret
      exact ⟨by rw [seenSum_all' w es seen h0]; rfl, hB⟩
    · obtain ⟨hem, hes⟩ := mem_left he
      obtain ⟨fa, fs, hva, hfs⟩ := hval e hem
      have hs1 : w1.heap = wr.heap := by rcases hw1 with rfl | rfl <;> rfl
      have hr1 : w1.heap[w.heap.size]? = some (.mapIter (some m) clock seen c0) := by rw [hs1]; exact hr
      have hset := MapKept.heap_set (w := w1) (o' := .mapIter (some m) clock (seen.push e.born) clock) hr1
      obtain ⟨w2, hw2⟩ : ∃ w2, w2 = Go.ChangeMaps.setBlock w1 w.heap.size (.mapIter (some m) clock (seen.push e.born) clock) := ⟨_, rfl⟩
      have hr2 : w2.heap[w.heap.size]? = some (.mapIter (some m) clock (seen.push e.born) clock) := by rw [hw2]; exact hset.1
      have hB2 : Below w.heap.size w w2 := by
        have hB1 : Below w.heap.size w w1 := by rcases hw1 with rfl | rfl; exact hB; exact hB.drew
        subst hw2
        refine ⟨hB1.os, hB1.tape, hB1.output, by show _ ≤ (Array.setIfInBounds _ _ _).size; rw [Array.size_setIfInBounds]; exact hB1.size, fun i hi => ?_⟩
        exact (hset.2 i (by omega)).trans (hB1.block i hi)
      rw [← hw2] at hrun
      have hm2 : w2.heap[m]? = some (.map es clock) := (hB2.block m hlt).trans hm
      have hent := run_entry_at (P := Tryz.prog) w2 w.heap.size m clock clock seen es e hr2 hm2 hem hst2.2.1
      have hfl : fileLen w e.val = fs.size := by rw [hva]; show (match w.cell? _ with | some (.string s) => _ | _ => _) = _; rw [hfs]
      have hc2 : w2.cell? ⟨fa, 0, none⟩ = some (.string fs) := by
        rw [hB2.cell (World.block_lt_of_cell? w _ hfs)]; exact hfs
      have hadd : seenSum (sized w es.toList) (seen.push e.born) = seenSum (sized w es.toList) seen + fs.size := by
        have := seenSum_push seen { e with val := .int .i64 (fileLen w e.val) } hes (sized w es.toList) (by rw [sized_born]; exact hst2.2.1) (List.mem_map.2 ⟨e, hem, rfl⟩)
        rw [this, ← hfl]; rfl
      have hbd := sized_bound w es.toList (seen.push e.born) fun x _ => fileLen_nonneg w x.val
      have hseen2 : w2.iterSeen w.heap.size = seen.push e.born := by unfold World.iterSeen; rw [hr2]
      rw [hva] at hent
      clear hw2
      go_wp2
      exact ⟨⟨seen.push e.born, clock, by rw [hadd], hr2, Nat.le_refl _, hB2⟩, by rw [hseen2, hseen]; exact left_shrinks es seen e he⟩
end Go.Proofs.YtklecelgejlihaaGreatDoor.Am

/-
  DERIVED: THE SHELF's CONTRACTS AT THIS DUMP, IN PLAIN WORDS (tools/lay-plain.mjs out of 'TryzShelf.lean', which tools/lay-shelf.mjs wrote): THE SAME DECLARATIONS UNDER THE SAME NAMES: 'import', 'namespace', 'open', 'def', 'theorem' AND NOTHING ELSE: no command of the shelf's: FOR A HAND-IN. Each laying: the table of numbers ('.._ren') and one theorem, a field a fact of the dump's own or the kernel's comparison; each contract: ONE APPLICATION.
-/
namespace Go.Proofs
open Go.Shelf
def Tryz.lays171_ren : Go.Shelf.Ren := ⟨fun | 171 => 36 | 243 => 63 | 246 => 89 | 283 => 105 | 284 => 106 | 285 => 107 | 286 => 108 | 129 => 123 | 317 => 124 | 318 => 125 | 319 => 126 | 320 => 127 | 337 => 134 | 338 => 135 | n => n, fun | 3 => 3 | 9 => 9 | 2 => 2 | 4 => 4 | 171 => 177 | 0 => 0 | 53 => 22 | 37 => 81 | 5 => 5 | 173 => 180 | 212 => 197 | 51 => 125 | 20 => 20 | 213 => 198 | 46 => 112 | 232 => 208 | 233 => 209 | n => n, fun | 17 => 1 | 18 => 3 | 19 => 4 | n => n⟩
theorem Tryz.lays171 : Go.Proofs.Lays.n171 Tryz.prog Tryz.lays171_ren := {
  mixed := by kernel_rfl
  f129 := Tryz.func123.trans (congrArg some (by kernel_rfl))
  f171 := Tryz.func36.trans (congrArg some (by kernel_rfl))
  f243 := Tryz.func63.trans (congrArg some (by kernel_rfl))
  f246 := Tryz.func89.trans (congrArg some (by kernel_rfl))
  f283 := Tryz.func105.trans (congrArg some (by kernel_rfl))
  f284 := Tryz.func106.trans (congrArg some (by kernel_rfl))
  f285 := Tryz.func107.trans (congrArg some (by kernel_rfl))
  f286 := Tryz.func108.trans (congrArg some (by kernel_rfl))
  f317 := Tryz.func124.trans (congrArg some (by kernel_rfl))
  f318 := Tryz.func125.trans (congrArg some (by kernel_rfl))
  f319 := Tryz.func126.trans (congrArg some (by kernel_rfl))
  f320 := Tryz.func127.trans (congrArg some (by kernel_rfl))
  f337 := Tryz.func134.trans (congrArg some (by kernel_rfl))
  f338 := Tryz.func135.trans (congrArg some (by kernel_rfl))
  t0 := Tryz.underlying0
  a0 := Tryz.isAgg0
  z0 := Tryz.sizeOf0
  v0 := Tryz.zeroValue0
  t2 := Tryz.underlying2
  a2 := Tryz.isAgg2
  z2 := Tryz.sizeOf2
  v2 := Tryz.zeroValue2
  t3 := Tryz.underlying3
  a3 := Tryz.isAgg3
  z3 := Tryz.sizeOf3
  v3 := Tryz.zeroValue3
  t4 := Tryz.underlying4
  a4 := Tryz.isAgg4
  z4 := Tryz.sizeOf4
  v4 := Tryz.zeroValue4
  t5 := Tryz.underlying5
  a5 := Tryz.isAgg5
  z5 := Tryz.sizeOf5
  v5 := Tryz.zeroValue5
  t9 := Tryz.underlying9
  a9 := Tryz.isAgg9
  z9 := Tryz.sizeOf9
  v9 := Tryz.zeroValue9
  t20 := Tryz.underlying20
  a20 := Tryz.isAgg20
  z20 := Tryz.sizeOf20
  v20 := Tryz.zeroValue20
  t37 := Tryz.underlying81
  a37 := Tryz.isAgg81
  z37 := Tryz.sizeOf81
  v37 := Tryz.zeroValue81
  t46 := Tryz.underlying112
  a46 := Tryz.isAgg112
  z46 := Tryz.sizeOf112
  v46 := Tryz.zeroValue112
  t51 := Tryz.underlying125
  a51 := Tryz.isAgg125
  z51 := Tryz.sizeOf125
  v51 := Tryz.zeroValue125
  t53 := Tryz.underlying22
  a53 := Tryz.isAgg22
  z53 := Tryz.sizeOf22
  v53 := Tryz.zeroValue22
  t171 := Tryz.underlying177
  a171 := Tryz.isAgg177
  z171 := Tryz.sizeOf177
  v171 := Tryz.zeroValue177
  t173 := Tryz.underlying180
  a173 := Tryz.isAgg180
  z173 := Tryz.sizeOf180
  v173 := Tryz.zeroValue180
  t212 := Tryz.underlying197
  a212 := Tryz.isAgg197
  z212 := Tryz.sizeOf197
  v212 := Tryz.zeroValue197
  t213 := Tryz.underlying198
  a213 := Tryz.isAgg198
  z213 := Tryz.sizeOf198
  t232 := Tryz.underlying208
  a232 := Tryz.isAgg208
  z232 := Tryz.sizeOf208
  v232 := Tryz.zeroValue208
  t233 := Tryz.underlying209
  a233 := Tryz.isAgg209
  z233 := Tryz.sizeOf209
  v233 := Tryz.zeroValue209
  g17 := by kernel_rfl
  g18 := by kernel_rfl
  g19 := by kernel_rfl }
open Go.RowKit Go.Sort Go.Lib in
/-- THE ROAD WITHOUT THE TABLE: 0 <= i < 100: NO PREMISE ON THE WORLD, AND THE WORLD IS AS IT WAS: a row that keeps its argument in that range need list no table ('laid = []'). (LAID: no walk: one application.) -/
theorem Tryz.strconv_Itoa_small (i : Nat) (hi : i < 100) (w : World) :
    Calls Tryz.prog 36 #[.int .i64 i] w fun e w' => e = .returned (.string ⟨(Lib.decDigits i).toArray⟩) ∧ w' = w := Any.strconv_Itoa_small Tryz.lays171 i hi w
def Tryz.lays190_ren : Go.Shelf.Ren := ⟨fun | 190 => 86 | 125 => 104 | 258 => 103 | 128 => 122 | 129 => 123 | 302 => 113 | 303 => 114 | 304 => 115 | 305 => 116 | 306 => 117 | 307 => 118 | 308 => 119 | 309 => 120 | 310 => 121 | 333 => 128 | 329 => 129 | 330 => 130 | 334 => 131 | 335 => 132 | 336 => 133 | 344 => 136 | n => n, fun | 31 => 89 | 9 => 9 | 3 => 3 | 46 => 112 | 0 => 0 | 51 => 125 | 53 => 22 | 4 => 4 | 183 => 189 | 182 => 188 | 131 => 193 | 5 => 5 | 218 => 200 | 222 => 203 | 228 => 205 | 229 => 206 | n => n, fun | n => n⟩
theorem Tryz.lays190 : Go.Proofs.Lays.n190 Tryz.prog Tryz.lays190_ren := {
  mixed := by kernel_rfl
  f125 := Tryz.func104.trans (congrArg some (by kernel_rfl))
  f128 := Tryz.func122.trans (congrArg some (by kernel_rfl))
  f129 := Tryz.func123.trans (congrArg some (by kernel_rfl))
  f190 := Tryz.func86.trans (congrArg some (by kernel_rfl))
  f258 := Tryz.func103.trans (congrArg some (by kernel_rfl))
  f302 := Tryz.func113.trans (congrArg some (by kernel_rfl))
  f303 := Tryz.func114.trans (congrArg some (by kernel_rfl))
  f304 := Tryz.func115.trans (congrArg some (by kernel_rfl))
  f305 := Tryz.func116.trans (congrArg some (by kernel_rfl))
  f306 := Tryz.func117.trans (congrArg some (by kernel_rfl))
  f307 := Tryz.func118.trans (congrArg some (by kernel_rfl))
  f308 := Tryz.func119.trans (congrArg some (by kernel_rfl))
  f309 := Tryz.func120.trans (congrArg some (by kernel_rfl))
  f310 := Tryz.func121.trans (congrArg some (by kernel_rfl))
  f329 := Tryz.func129.trans (congrArg some (by kernel_rfl))
  f330 := Tryz.func130.trans (congrArg some (by kernel_rfl))
  f333 := Tryz.func128.trans (congrArg some (by kernel_rfl))
  f334 := Tryz.func131.trans (congrArg some (by kernel_rfl))
  f335 := Tryz.func132.trans (congrArg some (by kernel_rfl))
  f336 := Tryz.func133.trans (congrArg some (by kernel_rfl))
  f344 := Tryz.func136.trans (congrArg some (by kernel_rfl))
  t0 := Tryz.underlying0
  a0 := Tryz.isAgg0
  z0 := Tryz.sizeOf0
  v0 := Tryz.zeroValue0
  t3 := Tryz.underlying3
  a3 := Tryz.isAgg3
  z3 := Tryz.sizeOf3
  v3 := Tryz.zeroValue3
  t4 := Tryz.underlying4
  a4 := Tryz.isAgg4
  z4 := Tryz.sizeOf4
  v4 := Tryz.zeroValue4
  t5 := Tryz.underlying5
  a5 := Tryz.isAgg5
  z5 := Tryz.sizeOf5
  v5 := Tryz.zeroValue5
  t9 := Tryz.underlying9
  a9 := Tryz.isAgg9
  z9 := Tryz.sizeOf9
  v9 := Tryz.zeroValue9
  t31 := Tryz.underlying89
  a31 := Tryz.isAgg89
  z31 := Tryz.sizeOf89
  v31 := Tryz.zeroValue89
  t46 := Tryz.underlying112
  a46 := Tryz.isAgg112
  z46 := Tryz.sizeOf112
  v46 := Tryz.zeroValue112
  t51 := Tryz.underlying125
  a51 := Tryz.isAgg125
  z51 := Tryz.sizeOf125
  v51 := Tryz.zeroValue125
  t53 := Tryz.underlying22
  a53 := Tryz.isAgg22
  z53 := Tryz.sizeOf22
  v53 := Tryz.zeroValue22
  t131 := Tryz.underlying193
  a131 := Tryz.isAgg193
  z131 := Tryz.sizeOf193
  v131 := Tryz.zeroValue193
  t182 := Tryz.underlying188
  a182 := Tryz.isAgg188
  z182 := Tryz.sizeOf188
  v182 := Tryz.zeroValue188
  t183 := Tryz.underlying189
  a183 := Tryz.isAgg189
  z183 := Tryz.sizeOf189
  v183 := Tryz.zeroValue189
  t218 := Tryz.underlying200
  a218 := Tryz.isAgg200
  z218 := Tryz.sizeOf200
  v218 := Tryz.zeroValue200
  t222 := Tryz.underlying203
  a222 := Tryz.isAgg203
  z222 := Tryz.sizeOf203
  v222 := Tryz.zeroValue203
  t228 := Tryz.underlying205
  a228 := Tryz.isAgg205
  z228 := Tryz.sizeOf205
  v228 := Tryz.zeroValue205
  t229 := Tryz.underlying206
  a229 := Tryz.isAgg206
  z229 := Tryz.sizeOf206
  v229 := Tryz.zeroValue206 }
open Go.Sort Go.RowKit in
theorem Tryz.slices_Sort_string (blk off cap : Nat) (ss : List (List UInt8)) (w : World) (hH : Holds encStr w blk off ss.toArray) (hblk : blk < w.heap.size) (hsz : ss.length < 4611686018427387904) :
    Calls Tryz.prog 86 #[.slice (some ⟨blk, off, none⟩) ss.length cap] w fun e w' =>
      e = .returned (.tuple #[]) ∧ ∃ n os, w' = grow (putRow encStr (Sort.ahead w n) blk off (ss.mergeSort fun x y => decide (x ≤ y)).toArray) os := Any.slices_Sort_string Tryz.lays190 blk off cap ss w hH hblk hsz
def Tryz.lays105_ren : Go.Shelf.Ren := ⟨fun | 105 => 37 | 212 => 64 | 99 => 65 | 165 => 66 | 166 => 67 | 170 => 68 | 169 => 69 | 263 => 90 | 264 => 91 | 206 => 92 | 240 => 93 | 241 => 94 | 276 => 109 | 277 => 110 | n => n, fun | 9 => 9 | 3 => 3 | 4 => 4 | 20 => 20 | 0 => 0 | 46 => 112 | 109 => 113 | 5 => 5 | 72 => 118 | 76 => 120 | 51 => 125 | 146 => 149 | 53 => 22 | 148 => 151 | 70 => 116 | 37 => 81 | 75 => 58 | 127 => 153 | 164 => 134 | 80 => 122 | n => n, fun | n => n⟩
theorem Tryz.lays105 : Go.Proofs.Lays.n105 Tryz.prog Tryz.lays105_ren := {
  mixed := by kernel_rfl
  f99 := Tryz.func65.trans (congrArg some (by kernel_rfl))
  f105 := Tryz.func37.trans (congrArg some (by kernel_rfl))
  f165 := Tryz.func66.trans (congrArg some (by kernel_rfl))
  f166 := Tryz.func67.trans (congrArg some (by kernel_rfl))
  f169 := Tryz.func69.trans (congrArg some (by kernel_rfl))
  f170 := Tryz.func68.trans (congrArg some (by kernel_rfl))
  f206 := Tryz.func92.trans (congrArg some (by kernel_rfl))
  f212 := Tryz.func64.trans (congrArg some (by kernel_rfl))
  f240 := Tryz.func93.trans (congrArg some (by kernel_rfl))
  f241 := Tryz.func94.trans (congrArg some (by kernel_rfl))
  f263 := Tryz.func90.trans (congrArg some (by kernel_rfl))
  f264 := Tryz.func91.trans (congrArg some (by kernel_rfl))
  f276 := Tryz.func109.trans (congrArg some (by kernel_rfl))
  f277 := Tryz.func110.trans (congrArg some (by kernel_rfl))
  t0 := Tryz.underlying0
  a0 := Tryz.isAgg0
  z0 := Tryz.sizeOf0
  v0 := Tryz.zeroValue0
  t3 := Tryz.underlying3
  a3 := Tryz.isAgg3
  z3 := Tryz.sizeOf3
  v3 := Tryz.zeroValue3
  t4 := Tryz.underlying4
  a4 := Tryz.isAgg4
  z4 := Tryz.sizeOf4
  v4 := Tryz.zeroValue4
  t5 := Tryz.underlying5
  a5 := Tryz.isAgg5
  z5 := Tryz.sizeOf5
  v5 := Tryz.zeroValue5
  t9 := Tryz.underlying9
  a9 := Tryz.isAgg9
  z9 := Tryz.sizeOf9
  v9 := Tryz.zeroValue9
  t20 := Tryz.underlying20
  a20 := Tryz.isAgg20
  z20 := Tryz.sizeOf20
  v20 := Tryz.zeroValue20
  t37 := Tryz.underlying81
  a37 := Tryz.isAgg81
  z37 := Tryz.sizeOf81
  v37 := Tryz.zeroValue81
  t46 := Tryz.underlying112
  a46 := Tryz.isAgg112
  z46 := Tryz.sizeOf112
  v46 := Tryz.zeroValue112
  t51 := Tryz.underlying125
  a51 := Tryz.isAgg125
  z51 := Tryz.sizeOf125
  v51 := Tryz.zeroValue125
  t53 := Tryz.underlying22
  a53 := Tryz.isAgg22
  z53 := Tryz.sizeOf22
  v53 := Tryz.zeroValue22
  t70 := Tryz.underlying116
  a70 := Tryz.isAgg116
  z70 := Tryz.sizeOf116
  v70 := Tryz.zeroValue116
  t72 := Tryz.underlying118
  a72 := Tryz.isAgg118
  z72 := Tryz.sizeOf118
  v72 := Tryz.zeroValue118
  t75 := Tryz.underlying58
  a75 := Tryz.isAgg58
  z75 := Tryz.sizeOf58
  v75 := Tryz.zeroValue58
  t76 := Tryz.underlying120
  a76 := Tryz.isAgg120
  z76 := Tryz.sizeOf120
  v76 := Tryz.zeroValue120
  t109 := Tryz.underlying113
  a109 := Tryz.isAgg113
  z109 := Tryz.sizeOf113
  v109 := Tryz.zeroValue113
  t127 := Tryz.underlying153
  a127 := Tryz.isAgg153
  z127 := Tryz.sizeOf153
  v127 := Tryz.zeroValue153
  t146 := Tryz.underlying149
  a146 := Tryz.isAgg149
  z146 := Tryz.sizeOf149
  v146 := Tryz.zeroValue149
  t148 := Tryz.underlying151
  a148 := Tryz.isAgg151
  z148 := Tryz.sizeOf151
  v148 := Tryz.zeroValue151
  t164 := Tryz.underlying134
  a164 := Tryz.isAgg134
  z164 := Tryz.sizeOf134
  v164 := Tryz.zeroValue134 }
theorem Tryz.Builder_Extra_105 : Builder.Extra Tryz.prog Tryz.lays105_ren := {
  sizeBuilder := by kernel_rfl
  liesBuilder := by kernel_rfl
  t5 := Tryz.underlying5
  a5 := Tryz.isAgg5
  z5 := Tryz.sizeOf5
  v5 := Tryz.zeroValue5
  infoByte := by kernel_rfl
  cellsByte := by kernel_rfl
  sizeByte := by kernel_rfl
  neB5 := by decide }
open Go.RowKit Go.Lib in
/-- **strings.Repeat: count ≥ 0, the result within one allocation: count copies of s.** (LAID: no walk: one application.) -/
theorem Tryz.strings_Repeat (s : ByteArray) (c : Nat) (w : World) (hc : c ≤ 9223372036854775807) (hlen : s.size * c ≤ 140737488355328) :
    Calls Tryz.prog 37 #[.string s, .int .i64 c] w fun e w' => e = .returned (.string ⟨(Lib.repeatL s.data.toList c).toArray⟩) ∧ Below w.heap.size w w' := Any.strings_Repeat Tryz.lays105 Tryz.Builder_Extra_105 s c w hc hlen
open Go.RowKit Go.Sort in
/-- .. and plain. (LAID: no walk: one application.) -/
theorem Tryz.slices_Sort_string_none (p : Option Addr) (cap : Nat) (w : World) :
    Calls Tryz.prog 86 #[.slice p 0 cap] w fun e w' => e = .returned (.tuple #[]) ∧ w' = w := Any.slices_Sort_string_none Tryz.lays190 p cap w
def Tryz.keys55_ren : Go.Shelf.Ren := ⟨fun | 7 => 55 | 10 => 87 | n => n, fun | 23 => 83 | 26 => 9 | 3 => 71 | 28 => 108 | 0 => 0 | 27 => 107 | 33 => 111 | 4 => 4 | n => n, fun | n => n⟩
theorem Tryz.keys55 : Go.Proofs.SlLaysZ.n7 Tryz.prog Tryz.keys55_ren := {
  mixed := by kernel_rfl
  f7 := ⟨Tryz.f55.name, by decide, Tryz.func55.trans (congrArg some (by kernel_rfl))⟩
  f10 := ⟨Tryz.f87.name, by decide, Tryz.func87.trans (congrArg some (by kernel_rfl))⟩
  t0 := Tryz.underlying0
  a0 := Tryz.isAgg0
  z0 := Tryz.sizeOf0
  v0 := Tryz.zeroValue0
  t4 := Tryz.underlying4
  a4 := Tryz.isAgg4
  z4 := Tryz.sizeOf4
  v4 := Tryz.zeroValue4
  t23 := Tryz.underlying83
  a23 := Tryz.isAgg83
  z23 := Tryz.sizeOf83
  v23 := Tryz.zeroValue83
  t26 := Tryz.underlying9
  a26 := Tryz.isAgg9
  z26 := Tryz.sizeOf9
  v26 := Tryz.zeroValue9
  t27 := Tryz.underlying107
  a27 := Tryz.isAgg107
  z27 := Tryz.sizeOf107
  v27 := Tryz.zeroValue107
  t28 := Tryz.underlying108
  a28 := Tryz.isAgg108
  z28 := Tryz.sizeOf108
  v28 := Tryz.zeroValue108
  t33 := Tryz.underlying111
  a33 := Tryz.isAgg111
  z33 := Tryz.sizeOf111
  v33 := Tryz.zeroValue111 }
def Tryz.sorted54_ren : Go.Shelf.Ren := ⟨fun | 6 => 54 | 8 => 85 | 9 => 86 | 11 => 102 | 13 => 104 | 12 => 103 | 23 => 122 | 24 => 123 | 14 => 113 | 15 => 114 | 16 => 115 | 17 => 116 | 18 => 117 | 19 => 118 | 20 => 119 | 21 => 120 | 22 => 121 | 25 => 128 | 26 => 129 | 27 => 130 | 28 => 131 | 29 => 132 | 30 => 133 | 31 => 136 | n => n, fun | 26 => 9 | 28 => 108 | 24 => 89 | 0 => 0 | 3 => 3 | 37 => 112 | 48 => 125 | 50 => 22 | 4 => 4 | 40 => 189 | 39 => 188 | 45 => 193 | 5 => 5 | 9 => 9 | 51 => 200 | 55 => 203 | 57 => 205 | 58 => 206 | 33 => 111 | n => n, fun | n => n⟩
theorem Tryz.sorted54 : Go.Proofs.SlLaysZ.n6 Tryz.prog Tryz.sorted54_ren := {
  mixed := by kernel_rfl
  f6 := ⟨Tryz.f54.name, by decide, Tryz.func54.trans (congrArg some (by kernel_rfl))⟩
  f8 := ⟨Tryz.f85.name, by decide, Tryz.func85.trans (congrArg some (by kernel_rfl))⟩
  f11 := ⟨Tryz.f102.name, by decide, Tryz.func102.trans (congrArg some (by kernel_rfl))⟩
  t0 := Tryz.underlying0
  a0 := Tryz.isAgg0
  z0 := Tryz.sizeOf0
  v0 := Tryz.zeroValue0
  t24 := Tryz.underlying89
  a24 := Tryz.isAgg89
  z24 := Tryz.sizeOf89
  v24 := Tryz.zeroValue89
  t26 := Tryz.underlying9
  a26 := Tryz.isAgg9
  z26 := Tryz.sizeOf9
  v26 := Tryz.zeroValue9
  t28 := Tryz.underlying108
  a28 := Tryz.isAgg108
  z28 := Tryz.sizeOf108
  v28 := Tryz.zeroValue108
  i26 := by kernel_rfl }
def Tryz.sort86_ren : Go.Shelf.Ren := ⟨fun | 6 => 86 | 8 => 104 | 9 => 103 | 19 => 122 | 20 => 123 | 21 => 113 | 22 => 114 | 23 => 115 | 24 => 116 | 25 => 117 | 26 => 118 | 27 => 119 | 28 => 120 | 29 => 121 | 36 => 128 | 31 => 129 | 32 => 130 | 37 => 131 | 38 => 132 | 39 => 133 | 41 => 136 | n => n, fun | 27 => 89 | 29 => 9 | 3 => 3 | 32 => 112 | 26 => 89 | 0 => 0 | 44 => 125 | 46 => 22 | 4 => 4 | 36 => 189 | 35 => 188 | 41 => 193 | 5 => 5 | 9 => 9 | 53 => 200 | 57 => 203 | 63 => 205 | 64 => 206 | n => n, fun | n => n⟩
theorem Tryz.sort86 : Go.Proofs.SlLaysM.n6 Tryz.prog Tryz.sort86_ren := {
  mixed := by kernel_rfl
  f6 := ⟨Tryz.f86.name, by decide, Tryz.func86.trans (congrArg some (by kernel_rfl))⟩
  f8 := Tryz.func104.trans (congrArg some (by kernel_rfl))
  f9 := ⟨Tryz.f103.name, by decide, Tryz.func103.trans (congrArg some (by kernel_rfl))⟩
  f19 := Tryz.func122.trans (congrArg some (by kernel_rfl))
  f20 := Tryz.func123.trans (congrArg some (by kernel_rfl))
  f21 := ⟨Tryz.f113.name, by decide, Tryz.func113.trans (congrArg some (by kernel_rfl))⟩
  f22 := ⟨Tryz.f114.name, by decide, Tryz.func114.trans (congrArg some (by kernel_rfl))⟩
  f23 := ⟨Tryz.f115.name, by decide, Tryz.func115.trans (congrArg some (by kernel_rfl))⟩
  f24 := ⟨Tryz.f116.name, by decide, Tryz.func116.trans (congrArg some (by kernel_rfl))⟩
  f25 := ⟨Tryz.f117.name, by decide, Tryz.func117.trans (congrArg some (by kernel_rfl))⟩
  f26 := ⟨Tryz.f118.name, by decide, Tryz.func118.trans (congrArg some (by kernel_rfl))⟩
  f27 := ⟨Tryz.f119.name, by decide, Tryz.func119.trans (congrArg some (by kernel_rfl))⟩
  f28 := ⟨Tryz.f120.name, by decide, Tryz.func120.trans (congrArg some (by kernel_rfl))⟩
  f29 := ⟨Tryz.f121.name, by decide, Tryz.func121.trans (congrArg some (by kernel_rfl))⟩
  f31 := Tryz.func129.trans (congrArg some (by kernel_rfl))
  f32 := Tryz.func130.trans (congrArg some (by kernel_rfl))
  f36 := ⟨Tryz.f128.name, by decide, Tryz.func128.trans (congrArg some (by kernel_rfl))⟩
  f37 := ⟨Tryz.f131.name, by decide, Tryz.func131.trans (congrArg some (by kernel_rfl))⟩
  f38 := ⟨Tryz.f132.name, by decide, Tryz.func132.trans (congrArg some (by kernel_rfl))⟩
  f39 := ⟨Tryz.f133.name, by decide, Tryz.func133.trans (congrArg some (by kernel_rfl))⟩
  f41 := ⟨Tryz.f136.name, by decide, Tryz.func136.trans (congrArg some (by kernel_rfl))⟩
  t0 := Tryz.underlying0
  a0 := Tryz.isAgg0
  z0 := Tryz.sizeOf0
  v0 := Tryz.zeroValue0
  t3 := Tryz.underlying3
  a3 := Tryz.isAgg3
  z3 := Tryz.sizeOf3
  v3 := Tryz.zeroValue3
  t4 := Tryz.underlying4
  a4 := Tryz.isAgg4
  z4 := Tryz.sizeOf4
  v4 := Tryz.zeroValue4
  t5 := Tryz.underlying5
  a5 := Tryz.isAgg5
  z5 := Tryz.sizeOf5
  v5 := Tryz.zeroValue5
  t9 := Tryz.underlying9
  a9 := Tryz.isAgg9
  z9 := Tryz.sizeOf9
  v9 := Tryz.zeroValue9
  t26 := Tryz.underlying89
  a26 := Tryz.isAgg89
  z26 := Tryz.sizeOf89
  v26 := Tryz.zeroValue89
  t27 := Tryz.underlying89
  a27 := Tryz.isAgg89
  z27 := Tryz.sizeOf89
  v27 := Tryz.zeroValue89
  t29 := Tryz.underlying9
  a29 := Tryz.isAgg9
  z29 := Tryz.sizeOf9
  v29 := Tryz.zeroValue9
  t32 := Tryz.underlying112
  a32 := Tryz.isAgg112
  z32 := Tryz.sizeOf112
  v32 := Tryz.zeroValue112
  t35 := Tryz.underlying188
  a35 := Tryz.isAgg188
  z35 := Tryz.sizeOf188
  v35 := Tryz.zeroValue188
  t36 := Tryz.underlying189
  a36 := Tryz.isAgg189
  z36 := Tryz.sizeOf189
  v36 := Tryz.zeroValue189
  t41 := Tryz.underlying193
  a41 := Tryz.isAgg193
  z41 := Tryz.sizeOf193
  v41 := Tryz.zeroValue193
  t44 := Tryz.underlying125
  a44 := Tryz.isAgg125
  z44 := Tryz.sizeOf125
  v44 := Tryz.zeroValue125
  t46 := Tryz.underlying22
  a46 := Tryz.isAgg22
  z46 := Tryz.sizeOf22
  v46 := Tryz.zeroValue22
  t53 := Tryz.underlying200
  a53 := Tryz.isAgg200
  z53 := Tryz.sizeOf200
  v53 := Tryz.zeroValue200
  t57 := Tryz.underlying203
  a57 := Tryz.isAgg203
  z57 := Tryz.sizeOf203
  v57 := Tryz.zeroValue203
  t63 := Tryz.underlying205
  a63 := Tryz.isAgg205
  z63 := Tryz.sizeOf205
  v63 := Tryz.zeroValue205
  t64 := Tryz.underlying206
  a64 := Tryz.isAgg206
  z64 := Tryz.sizeOf206
  v64 := Tryz.zeroValue206 }
def Tryz.clone56_ren : Go.Shelf.Ren := ⟨fun | 5 => 56 | 7 => 88 | n => n, fun | 23 => 83 | 25 => 9 | 3 => 71 | 4 => 4 | 20 => 20 | n => n, fun | n => n⟩
theorem Tryz.clone56 : Go.Proofs.SlLaysW.n5 Tryz.prog Tryz.clone56_ren := {
  mixed := by kernel_rfl
  f5 := ⟨Tryz.f56.name, by decide, Tryz.func56.trans (congrArg some (by kernel_rfl))⟩
  f7 := Tryz.func88.trans (congrArg some (by kernel_rfl))
  t4 := Tryz.underlying4
  a4 := Tryz.isAgg4
  z4 := Tryz.sizeOf4
  v4 := Tryz.zeroValue4
  t20 := Tryz.underlying20
  a20 := Tryz.isAgg20
  z20 := Tryz.sizeOf20
  v20 := Tryz.zeroValue20
  t23 := Tryz.underlying83
  a23 := Tryz.isAgg83
  z23 := Tryz.sizeOf83
  v23 := Tryz.zeroValue83 }
end Go.Proofs

/- The library's functions, and the disk's sum, by heart. -/
namespace Go.Proofs.YtklecelgejlihaaGreatDoor.Am
open Go.RowKit Go.Maps Go.Sort Go.Shelf
set_option linter.unusedVariables false
set_option linter.unusedSimpArgs false

/-! ### how many bytes all files have -/
def fileA (H : List (Option Blk)) : AV → Option Nat
  | .ptr id 0 => match getBlk H id with
    | some ⟨_, .str s :: _⟩ => some s.length
    | _ => none
  | _ => none
def sumA (H : List (Option Blk)) : List (AV × AV) → Option Nat
  | [] => some 0
  | p :: l => match fileA H p.2, sumA H l with
    | some a, some b => some (a + b)
    | _, _ => none
def usedF : HF := fun H args => match args with
  | [.ptr id 0] => match getBlk H id with
    | some ⟨e, [_, _, _, .bool false, .map m, _, _]⟩ => cond (Nat.beq e 86) (match getMap H m with
      | some l => match sumA H l with
        | some n => cond (Nat.ble n 4611686018427387904) (some (.int .i64 n)) none
        | none => none
      | none => none) none
    | _ => none
  | _ => none
theorem fileA_fill {H : List (Option Blk)} {x : AV} {n p : Nat} {k : Blk} (h : fileA H x = some n) (hp : H[p]? = some none) : fileA (H.set p (some k)) x = some n := by
  unfold fileA at h ⊢
  split at h
  · split at h
    · rename_i hb; rw [getBlk_fill hb hp]; exact h
    · cases h
  · cases h
theorem sumA_fill {H : List (Option Blk)} {p : Nat} {k : Blk} (hp : H[p]? = some none) : ∀ {l : List (AV × AV)} {n : Nat}, sumA H l = some n → sumA (H.set p (some k)) l = some n
  | [], n, h => h
  | q :: l, n, h => by
    unfold sumA at h ⊢
    split at h
    · rename_i a b h1 h2
      rw [fileA_fill h1 hp, sumA_fill hp h2]; exact h
    · cases h
theorem used_fills : Fills usedF := by
  intro H args x p k h hp
  unfold usedF at h ⊢
  split at h
  case h_2 => cases h
  split at h
  case h_2 => cases h
  rename_i hb
  rw [getBlk_fill hb hp]
  simp only
  rename_i e _ _ _ m _ _
  cases he : Nat.beq e 86 with
  | false => rw [he] at h; cases h
  | true =>
    rw [he, cond_true] at h
    rw [cond_true]
    split at h
    case h_2 => cases h
    rename_i l hl
    rw [getMap_fill hl hp]
    simp only
    split at h
    case h_2 => cases h
    rename_i n hn
    rw [sumA_fill hp hn]
    exact h
section
variable {P : Program}
theorem ptr_inv {M : Mem} {id off : Nat} {v : Value} (h : Rep P M (.ptr id off) v) : ∃ b, M.f id = some b ∧ v = .pointer (some ⟨b, off, none⟩) := by
  cases h with | ptr _ _ b hf => exact ⟨b, hf, rfl⟩
theorem map_inv {M : Mem} {id : Nat} {v : Value} (h : Rep P M (.map id) v) : ∃ b, M.f id = some b ∧ v = .map (some b) := by
  cases h with | map _ b hf => exact ⟨b, hf, rfl⟩
theorem file_len {G : Gh} {H : List (Option Blk)} {w : World} (hH : HeapRel P G H w) {x : AV} {v : Value} {n : Nat} (h : fileA H x = some n) (r : Rep P (G.mem w) x v) : (∃ a s, v = .pointer (some ⟨a, 0, none⟩) ∧ w.cell? ⟨a, 0, none⟩ = some (.string s)) ∧ fileLen w v = n := by
  unfold fileA at h
  split at h
  case h_2 => cases h
  rename_i id
  split at h
  case h_2 => cases h
  rename_i e s r' hb
  injection h with h
  subst h
  obtain ⟨b, hf, rfl⟩ := ptr_inv r
  obtain ⟨cs, h1, h2, h3⟩ := blk_of hH hf hb
  have hs := str_inv (h3 0 (by simp))
  have hc := h2 0 (by simp)
  rw [hs] at hc
  refine ⟨⟨b, _, rfl, hc⟩, ?_⟩
  unfold fileLen
  simp only [hc]
  rfl
theorem sum_len {G : Gh} {H : List (Option Blk)} {w : World} (hH : HeapRel P G H w) : ∀ (l : List (AV × AV)) (es : List MapEntry) (n : Nat), sumA H l = some n → es.length = l.length → (∀ j, j < l.length → ∀ p e, l[j]? = some p → es[j]? = some e → Rep P (G.mem w) p.1 e.key ∧ Rep P (G.mem w) p.2 e.val) →
    (∀ x ∈ es, ∃ a s, x.val = .pointer (some ⟨a, 0, none⟩) ∧ w.cell? ⟨a, 0, none⟩ = some (.string s)) ∧ (es.map fun e => fileLen w e.val).sum = n
  | [], es, n, h, hl, _ => by
    obtain rfl := List.eq_nil_of_length_eq_zero hl
    injection h with h
    subst h
    exact ⟨fun x hx => (by cases hx), rfl⟩
  | p :: l, [], n, h, hl, _ => by cases hl
  | p :: l, e :: es, n, h, hl, hr => by
    unfold sumA at h
    split at h
    case h_2 => cases h
    rename_i a b h1 h2
    injection h with h
    subst h
    obtain ⟨q1, q2⟩ := file_len hH h1 (hr 0 (by simp) p e rfl rfl).2
    obtain ⟨q3, q4⟩ := sum_len hH l es b h2 (by simpa using hl) fun j hj p' e' hp he => hr (j + 1) (by simpa using hj) p' e' (by simpa using hp) (by simpa using he)
    refine ⟨fun x hx => ?_, ?_⟩
    · rcases List.mem_cons.1 hx with rfl | hx
      · exact q1
      · exact q3 x hx
    · rw [List.map_cons, List.sum_cons, q2, q4]; omega
end
theorem used_at : ReadsAt Tryz.prog 43 usedF := by
  intro H args x h G w vals g hH ha
  unfold usedF at h
  split at h
  case h_2 => cases h
  rename_i id
  split at h
  case h_2 => cases h
  rename_i e x0 x1 x2 m x5 x6 hb
  cases he : Nat.beq e 86 with
  | false => rw [he] at h; cases h
  | true =>
  rw [he, cond_true] at h
  have he := Nat.eq_of_beq_eq_true he
  subst he
  split at h
  case h_2 => cases h
  rename_i l hl
  split at h
  case h_2 => cases h
  rename_i n hn
  cases hle : Nat.ble n 4611686018427387904 with
  | false => rw [hle] at h; cases h
  | true =>
  rw [hle, cond_true] at h
  injection h with h
  subst h
  have hle := Nat.ble_eq.mp hle
  obtain ⟨v, rfl, hv⟩ := args_one' ha
  obtain ⟨b, hf, rfl⟩ := ptr_inv hv
  obtain ⟨cs, h1, h2, h3⟩ := blk_of hH hf hb
  have c3 := h2 3 (by simp)
  rw [bool_inv (h3 3 (by simp))] at c3
  obtain ⟨r, hfm, em⟩ := map_inv (h3 4 (by simp))
  have c4 := h2 4 (by simp)
  rw [em] at c4
  obtain ⟨es, cl, hm, e1, e2, hst⟩ := map_at hH hl hfm
  obtain ⟨s1, s2⟩ := sum_len hH l es.toList n hn e1 e2
  refine (used_walk w b r cs _ es cl h1 c3 c4 hm hst s1 (by rw [s2]; omega)).mono ?_
  rintro e w' ⟨rfl, hB⟩
  rw [s2]
  exact ⟨_, rfl, hB, .inl (.int _ _)⟩
end Go.Proofs.YtklecelgejlihaaGreatDoor.Am

/- A map's keys, sorted; a map, cloned; numbers and texts: by heart. -/
namespace Go.Proofs.YtklecelgejlihaaGreatDoor.Am
open Go.RowKit Go.Maps Go.Sort Go.Shelf Go.WideShapes
set_option linter.unusedVariables false
set_option linter.unusedSimpArgs false

/-! ### the order of texts -/
def leL : Bytes → Bytes → Bool
  | [], _ => true
  | _ :: _, [] => false
  | a :: r, b :: q => cond (Nat.blt a.toNat b.toNat) true (cond (Nat.beq a.toNat b.toNat) (leL r q) false)
def insS (x : Bytes) : List Bytes → List Bytes
  | [] => [x]
  | y :: r => cond (leL x y) (x :: y :: r) (y :: insS x r)
def sortS : List Bytes → List Bytes
  | [] => []
  | x :: r => insS x (sortS r)
theorem leL_iff : ∀ (x y : Bytes), leL x y = true ↔ x ≤ y
  | [], y => by simp [leL]
  | a :: r, [] => by simp [leL]
  | a :: r, b :: q => by
    rw [List.cons_le_cons_iff, leL]
    cases h1 : Nat.blt a.toNat b.toNat with
    | true =>
      have := Nat.blt_eq.mp h1
      simp only [cond_true, true_iff]
      exact .inl (UInt8.lt_iff_toNat_lt.2 this)
    | false =>
      have h1' : ¬ a.toNat < b.toNat := fun h => by rw [Nat.blt_eq.mpr h] at h1; cases h1
      cases h2 : Nat.beq a.toNat b.toNat with
      | true =>
        have := Nat.eq_of_beq_eq_true h2
        have hab : a = b := UInt8.toNat_inj.1 this
        simp only [cond_false, cond_true]
        rw [leL_iff r q]
        constructor
        · intro h; exact .inr ⟨hab, h⟩
        · rintro (h | ⟨_, h⟩)
          · exact absurd (UInt8.lt_iff_toNat_lt.1 h) h1'
          · exact h
      | false =>
        simp only [cond_false, Bool.false_eq_true, false_iff]
        rintro (h | ⟨h, _⟩)
        · exact h1' (UInt8.lt_iff_toNat_lt.1 h)
        · subst h; rw [Nat.beq_refl] at h2; cases h2
theorem insS_perm (x : Bytes) : ∀ l : List Bytes, (insS x l).Perm (x :: l)
  | [] => List.Perm.refl _
  | y :: r => by
    unfold insS
    cases leL x y with
    | true => exact List.Perm.refl _
    | false => exact ((insS_perm x r).cons y).trans (List.Perm.swap x y r)
theorem sortS_perm : ∀ l : List Bytes, (sortS l).Perm l
  | [] => List.Perm.refl _
  | x :: r => (insS_perm x _).trans ((sortS_perm r).cons x)
theorem insS_sorted (x : Bytes) : ∀ l : List Bytes, l.Pairwise (· ≤ ·) → (insS x l).Pairwise (· ≤ ·)
  | [], _ => by simp [insS]
  | y :: r, h => by
    unfold insS
    cases hl : leL x y with
    | true =>
      have hxy := (leL_iff x y).1 hl
      refine List.pairwise_cons.2 ⟨fun z hz => ?_, h⟩
      rcases List.mem_cons.1 hz with rfl | hz
      · exact hxy
      · exact List.le_trans hxy ((List.pairwise_cons.1 h).1 z hz)
    | false =>
      have hyx : y ≤ x := by
        rcases List.le_total x y with h | h
        · rw [(leL_iff x y).2 h] at hl; cases hl
        · exact h
      obtain ⟨h1, h2⟩ := List.pairwise_cons.1 h
      refine List.pairwise_cons.2 ⟨fun z hz => ?_, insS_sorted x r h2⟩
      rcases List.mem_cons.1 ((insS_perm x r).mem_iff.1 hz) with rfl | hz
      · exact hyx
      · exact h1 z hz
theorem sortS_sorted : ∀ l : List Bytes, (sortS l).Pairwise (· ≤ ·)
  | [] => List.Pairwise.nil
  | x :: r => insS_sorted x _ (sortS_sorted r)
theorem sortS_eq {l l' : List Bytes} (h : l.Perm l') : l.mergeSort leB = sortS l' := by
  have tr : ∀ a b c : List UInt8, leB a b = true → leB b c = true → leB a c = true := fun a b c h1 h2 => by simp only [leB, decide_eq_true_eq] at *; exact List.le_trans h1 h2
  have tot : ∀ a b : List UInt8, (leB a b || leB b a) = true := fun a b => by simp only [leB, Bool.or_eq_true, decide_eq_true_eq]; exact List.le_total a b
  refine List.Perm.eq_of_pairwise (le := fun a b => a ≤ b) (fun a b _ _ h1 h2 => List.le_antisymm h1 h2) ((List.pairwise_mergeSort tr tot l).imp fun h => by simpa [leB] using h) (sortS_sorted l') (((List.mergeSort_perm l leB).trans h).trans (sortS_perm l').symm)

/-! ### slices.Sorted(maps.Keys(m)) -/
def keysA : List (AV × AV) → Option (List Bytes)
  | [] => some []
  | p :: l => match p.1, keysA l with
    | .str s, some r => cond (Nat.ble s.length 100000) (some (s :: r)) none
    | _, _ => none
def sortedV (e : TypeId) (ks : List Bytes) : AV :=
  match ks with
  | [] => .nils
  | _ :: _ => .lst e ((sortS ks).map .str) []
/-- Of a map in a box; gs: the functions that hand on its keys. -/
def sortedF (e : TypeId) (gs : List FuncId) : HF := fun H args => match args with
  | [.fn g [.ptr id 0]] => match getBlk H id with
    | some ⟨_, [.map m]⟩ => cond (gs.any fun q => Nat.beq q g) (match getMap H m with
      | some l => match keysA l with
        | some ks => cond (Nat.ble ks.length 100000) (some (sortedV e ks)) none
        | none => none
      | none => none) none
    | _ => none
  | _ => none
theorem sorted_fills {e : TypeId} {gs : List FuncId} : Fills (sortedF e gs) := by
  intro H args x p k h hp
  unfold sortedF at h ⊢
  split at h
  case h_2 => cases h
  rename_i g id
  split at h
  case h_2 => cases h
  rename_i e' m hb
  rw [getBlk_fill hb hp]
  simp only
  cases he : (gs.any fun q => Nat.beq q g) with
  | false => rw [he] at h; cases h
  | true =>
    rw [he, cond_true] at h
    rw [cond_true]
    split at h
    case h_2 => cases h
    rename_i l hl
    rw [getMap_fill hl hp]
    exact h
section
variable {P : Program}
def heldR (v : Value) : Option (DataW Value × List MemPlace) := some (.held v, [])
theorem keys_of {M : Mem} : ∀ (l : List (AV × AV)) (es : List MapEntry) (ks : List Bytes), keysA l = some ks → es.length = l.length → (∀ j, j < l.length → ∀ p e, l[j]? = some p → es[j]? = some e → Rep P M p.1 e.key ∧ Rep P M p.2 e.val) →
    es.map (·.key) = ks.map Proofs.encStr ∧ (∀ s ∈ ks, s.length ≤ 100000) ∧ ks.length = l.length
  | [], es, ks, h, hl, _ => by
    obtain rfl := List.eq_nil_of_length_eq_zero hl
    injection h with h
    subst h
    exact ⟨rfl, fun s hs => (by cases hs), rfl⟩
  | p :: l, [], ks, h, hl, _ => by cases hl
  | p :: l, e :: es, ks, h, hl, hr => by
    unfold keysA at h
    split at h
    case h_2 => cases h
    rename_i s r h1 h2
    cases hb : Nat.ble s.length 100000 with
    | false => rw [hb] at h; cases h
    | true =>
    rw [hb] at h
    injection h with h
    subst h
    obtain ⟨q1, q2, q3⟩ := keys_of l es r h2 (by simpa using hl) fun j hj p' e' hp he => hr (j + 1) (by simpa using hj) p' e' (by simpa using hp) (by simpa using he)
    have hk := (hr 0 (by simp) p e rfl rfl).1
    rw [h1] at hk
    refine ⟨?_, ?_, by simp [q3]⟩
    · rw [List.map_cons, List.map_cons, q1, str_inv hk]
    · intro x hx
      rcases List.mem_cons.1 hx with rfl | hx
      · exact Nat.ble_eq.mp hb
      · exact q2 x hx
theorem sorted_key {k : TypeId} (hk : P.underlying k = some .string) {s : Bytes} (h : s.length ≤ 100000) : keyOf P k (Proofs.encStr s) = some (.string s) := by
  unfold keyOf
  rw [hk]
  simp only [mapKey, hk, Proofs.encStr]
  have : (⟨s.toArray⟩ : ByteArray).size ≤ maxLen := by show s.toArray.size ≤ _; rw [List.size_toArray]; unfold maxLen; omega
  rw [if_pos this]
theorem strs_perm {es : List MapEntry} {ks : List Bytes} {k : TypeId} (hk : P.underlying k = some .string) (h : es.map (·.key) = ks.map Proofs.encStr) (hs : ∀ s ∈ ks, s.length ≤ 100000) :
    (strKeys (.map ((es.map (Go.WideElems.rg P k heldR)).foldr DataW.insert []))).Perm ks := by
  have h1 := (sorted_perm (es.map (Go.WideElems.rg P k heldR))).map fun p => strOf p.1
  refine h1.trans (List.Perm.of_eq ?_)
  induction es generalizing ks with
  | nil => cases ks with | nil => rfl | cons a r => cases h
  | cons e es ih =>
    cases ks with
    | nil => cases h
    | cons a r =>
      rw [List.map_cons, List.map_cons] at h
      injection h with h1 h2
      rw [List.map_cons, List.map_cons, ih h2 fun s hm => hs s (by simp [hm])]
      · congr 1
        unfold Go.WideElems.rg Go.WideElems.rd
        rw [h1, sorted_key hk (hs a (by simp))]
        rfl
      · exact (sorted_perm (es.map (Go.WideElems.rg P k heldR))).map fun p => strOf p.1
theorem rows_rep {G : Gh} {w w' : World} (g : GOk G w) (hb : Below w.heap.size w w') {e : TypeId} (hsz : sizeT P e = some 1) {v : Value} {ks : List Bytes} (h : w'.ownsRow w.heap.size e 1 v ks.length (ks.map Proofs.encStr)) (hn : ks ≠ []) :
    ∃ q n, w.heap.size ≤ q ∧ q < w'.heap.size ∧ Rep P ((G.list q n none).mem w') (.lst e (ks.map .str) []) v := by
  rcases h.2 with ⟨_, h0⟩ | ⟨q, cap, cur, rfl, hq, hh, hc, _, hcs, ht⟩
  · exact absurd (List.eq_nil_of_length_eq_zero h0) hn
  · have hr := list_rep_at (P := P) g hb hq hh (e := e) (xs := ks.map AV.str) (cap := cap) none hsz (by decide) (by intro x hx; obtain ⟨y, _, rfl⟩ := List.mem_map.1 hx; rfl) (by simpa using hc) (by
      intro j hj
      rw [flat_strs] at hj ⊢
      have hj : j < ks.length := by simpa using hj
      have hget : cur.toList[j]? = (ks.map Proofs.encStr)[j]? := by rw [← ht, List.getElem?_take_of_lt (by omega)]
      rw [List.getElem?_map, List.getElem?_eq_getElem hj] at hget
      have hcur : cur.getD j undef = Proofs.encStr ks[j] := by
        rw [Array.getD_eq_getD_getElem?]
        have : cur[j]? = some (Proofs.encStr ks[j]) := by simpa using hget
        rw [this]; rfl
      refine ⟨by omega, ?_, ?_⟩
      · rw [hcur]
        simp only [List.getD_eq_getElem?_getD, List.getElem?_map, List.getElem?_eq_getElem hj, Option.map_some, Option.getD_some]
        exact .str _
      · rw [hcur]; rfl)
    have el : (ks.map AV.str).length = ks.length := by simp
    rw [el] at hr
    exact ⟨q, _, hq, (Array.getElem?_eq_some_iff.1 hh).1, hr⟩
end
/-- What hands on a map's keys. -/
def KeysOk (P : Program) (k : TypeId) (g : FuncId) : Prop := ∀ (Bm b nn : Nat) (D0 : DataW Value) (w : World), Bm < w.heap.size → w.cell? ⟨Bm, 0, none⟩ = some (.map (some b)) → w.ownsMap P k heldR b nn D0 →
  SeqGives Fence.wide 2 P g #[.pointer (some ⟨Bm, 0, none⟩)] Proofs.encStr (fun ss => ss.Perm (strKeys D0)) (Maps.size D0) w
/-- What sorts that. -/
def SortedOk (P : Program) (f : FuncId) (k : TypeId) (gs : List FuncId) : Prop := ∀ g ∈ gs, ∀ (lb : Array Value) (S : List Bytes → Prop) (N : Nat), N ≤ maxLen → N * 16 ≤ 140737488355328 → ∀ w, SeqGives Fence.wide 2 P g lb Proofs.encStr S N w →
  Calls P f #[.func (.func g) #[] lb] w fun e w' => ∃ (v : Value) (ss : List Bytes), e = .returned v ∧ S ss ∧
      w'.ownsRow w.heap.size k 1 v ss.length ((ss.mergeSort (fun x y => decide (x ≤ y))).map Proofs.encStr) ∧ (v = .slice none 0 0 ↔ ss = []) ∧ Below w.heap.size w w'
theorem sorted_reads {P : Program} {f : FuncId} {k : TypeId} {gs : List FuncId} (hk : P.underlying k = some .string) (hsz : sizeT P k = some 1) (hg : ∀ g ∈ gs, KeysOk P k g) (hs : SortedOk P f k gs) : ReadsAt P f (sortedF k gs) := by
  intro H args x h G w vals g hH ha
  unfold sortedF at h
  split at h
  case h_2 => cases h
  rename_i gn id
  split at h
  case h_2 => cases h
  rename_i e m hb
  cases he : (gs.any fun q => Nat.beq q gn) with
  | false => rw [he] at h; cases h
  | true =>
  rw [he, cond_true] at h
  obtain ⟨q, hq, hqe⟩ := List.any_eq_true.1 he
  have hqe := Nat.eq_of_beq_eq_true hqe
  subst hqe
  split at h
  case h_2 => cases h
  rename_i l hl
  split at h
  case h_2 => cases h
  rename_i ks hks
  cases hle : Nat.ble ks.length 100000 with
  | false => rw [hle] at h; cases h
  | true =>
  rw [hle, cond_true] at h
  injection h with h
  subst h
  have hle := Nat.ble_eq.mp hle
  obtain ⟨v, rfl, hv⟩ := args_one' ha
  obtain ⟨c, rfl, hc⟩ : ∃ c, v = .func (.func q) #[] #[c] ∧ Rep P (G.mem w) (.ptr id 0) c := by
    cases hv with
    | fn _ _ vs hl h =>
      have e : vs.size = 1 := hl
      refine ⟨vs[0], ?_, by have := h 0 (by simp); simpa [Array.getD_eq_getD_getElem?, e] using this⟩
      congr 1
      apply Array.ext
      · simpa using e
      · intro i h3 h4
        have : i = 0 := by simp at h4; omega
        subst this; rfl
  obtain ⟨b, hf, rfl⟩ := ptr_inv hc
  obtain ⟨cs, h1, h2, h3⟩ := blk_of hH hf hb
  have c0 := h2 0 (by simp)
  obtain ⟨r, hfm, em⟩ := map_inv (h3 0 (by simp))
  rw [em] at c0
  obtain ⟨es, cl, hm, e1, e2, hst⟩ := map_at hH hl hfm
  obtain ⟨k1, k2, k3⟩ := keys_of l es.toList ks hks e1 e2
  have hsize : es.size = ks.length := by rw [k3, ← e1, Array.length_toList]
  have hown : w.ownsMap P k heldR r es.size (.map ((es.toList.map (Go.WideElems.rg P k heldR)).foldr DataW.insert [])) := by
    refine ⟨es, cl, hm, ⟨by rw [hsize]; unfold maxLen; omega, hst, fun x hx => ?_⟩, Nat.le_refl _, rfl⟩
    have : x.key ∈ es.toList.map (·.key) := List.mem_map.2 ⟨x, hx, rfl⟩
    rw [k1] at this
    obtain ⟨s, hs1, hs2⟩ := List.mem_map.1 this
    exact ⟨(.string s, .held x.val), by unfold Go.WideElems.rd; rw [← hs2, sorted_key hk (k2 s hs1)]; rfl⟩
  have hlen : Maps.size (H := Value) (.map ((es.toList.map (Go.WideElems.rg P k heldR)).foldr DataW.insert [])) = ks.length := by
    simp [Maps.size, (sorted_perm _).length_eq, hsize]
  have hseq := hg q hq b r es.size _ w (World.block_lt_of_cell? w _ c0) c0 hown
  rw [hlen] at hseq
  refine (hs q hq _ _ _ (by unfold maxLen; omega) (by omega) w hseq).mono ?_
  rintro e w' ⟨v, ss, rfl, hperm, hrow, hnil, hB⟩
  have hp := hperm.trans (strs_perm hk k1 k2)
  have hsort : (ss.mergeSort fun x y => decide (x ≤ y)) = sortS ks := sortS_eq hp
  rw [hsort] at hrow
  refine ⟨v, rfl, hB, ?_⟩
  cases ks with
  | nil =>
    have : ss = [] := hp.eq_nil
    rw [hnil.2 this]
    exact .inl .nils
  | cons a rr =>
    refine .inr ?_
    have hl2 : ss.length = (sortS (a :: rr)).length := by rw [hp.length_eq, (sortS_perm _).length_eq]
    rw [hl2] at hrow
    exact rows_rep g hB hsz hrow (fun h0 => by have := (sortS_perm (a :: rr)).length_eq; rw [h0] at this; cases this)
end Go.Proofs.YtklecelgejlihaaGreatDoor.Am

/- A map, cloned: by heart. -/
namespace Go.Proofs.YtklecelgejlihaaGreatDoor.Am
open Go.RowKit
set_option linter.unusedVariables false
set_option linter.unusedSimpArgs false

def cloneF : ShortF := fun _ args H own => match args with
  | [.map id] => match getMap H id with
    | some l => some (.map H.length, H ++ [some (mapBlk l)], own)
    | none => none
  | [.nilm] => some (.nilm, H, own)
  | _ => none
/-- What a contract says of it. -/
def CloneOk (P : Program) (f : FuncId) : Prop := (∀ (b : Nat) (es : Array MapEntry) (clock : Nat) (w : World), w.heap[b]? = some (.map es clock) → Calls P f #[.map (some b)] w fun e w' => e = .returned (.map (some w.heap.size)) ∧ w' = w.alloc (.map es clock)) ∧
  ∀ w : World, Calls P f #[.map none] w fun e w' => e = .returned (.map none) ∧ w' = w
section
variable {P : Program} {w : World}
theorem clone_done {G : Gh} {H : List (Option Blk)} {own : List Loc} (g : GOk G w) (r : HeapRel P G H w) (ow : CellOwns P G H own w) {id b : Nat} {l : List (AV × AV)} {es : Array MapEntry} {cl : Nat} (hl : getMap H id = some l) (hf : G.f id = some b)
    (hm : w.heap[b]? = some (.map es cl)) (e1 : es.toList.length = l.length) (e2 : ∀ j, j < l.length → ∀ p e, l[j]? = some p → es.toList[j]? = some e → Rep P (G.mem w) p.1 e.key ∧ Rep P (G.mem w) p.2 e.val) (hst : MapKept.Stamped es cl) :
    CallDone P G w (.map H.length, H ++ [some (mapBlk l)], own) (.map (some w.heap.size)) (w.alloc (.map es cl)) (G.map H.length w.heap.size 0) := by
  have hid : G.f H.length = none := by
    cases hf : G.f H.length with
    | none => rfl
    | some b => have := (r.dom _ _ hf).lt; omega
  have gr := onew_grow g hid (.map es cl)
  have split_ : ∀ i b, (G.map H.length w.heap.size 0).f i = some b → (i = H.length ∧ b = w.heap.size) ∨ (i ≠ H.length ∧ G.f i = some b) := by
    intro i b h
    change upd G.f H.length (some w.heap.size) i = some b at h
    by_cases hi : i = H.length
    · subst hi; rw [upd_same] at h; injection h with h; exact .inl ⟨rfl, h.symm⟩
    · rw [upd_ne _ _ hi] at h; exact .inr ⟨hi, h⟩
  have old : ∀ {i b k}, G.f i = some b → (H ++ [some (mapBlk l)])[i]? = some (some k) → H[i]? = some (some k) := by
    intro i b k hf hk
    rw [List.getElem?_append_left (r.dom i b hf).lt] at hk; exact hk
  have hnew : (H ++ [some (mapBlk l)])[H.length]? = some (some (mapBlk l)) := by rw [List.getElem?_append_right (Nat.le_refl _), Nat.sub_self]; rfl
  have hM := (gr.ext g).mem
  refine ⟨gr.ext g, onew_gok g hid _, ⟨?_, ?_, ?_, ?_⟩, .map _ _ (upd_same _ _ _), ⟨?_, fun i off hm => (ow.dom i off hm).append _⟩⟩
  · intro i b h
    rcases split_ i b h with ⟨rfl, rfl⟩ | ⟨_, h⟩
    · exact ⟨_, hnew⟩
    · exact (r.dom i b h).append _
  · intro i b k h hk
    rcases split_ i b h with ⟨rfl, rfl⟩ | ⟨_, h⟩
    · rw [hnew] at hk; injection hk with hk; injection hk with hk; subst hk
      exact ⟨fun e => (by rw [show Nat.beq (mapBlk l).e LOOP = true from Nat.beq_refl _] at e; cases e), fun _ => .inr ⟨l, es, cl, alloc_heap_new w _, rfl, e1, fun j hj p e hp he => ⟨(e2 j hj p e hp he).1.mono hM, (e2 j hj p e hp he).2.mono hM⟩, hst⟩⟩
    · exact (r.blk i b k h (old h hk)).grow gr g (g.fin i b h).1
  · intro i j b k l h1 h2 hk hl n1 n2
    rcases split_ i b h1 with ⟨q1, q2⟩ | ⟨_, q1⟩ <;> rcases split_ j b h2 with ⟨q3, q4⟩ | ⟨_, q3⟩
    · rw [q1, q3]
    · have := (g.fin j _ q3).1; omega
    · have := (g.fin i _ q1).1; omega
    · exact r.inj i j b k l q1 q3 (old q1 hk) (old q3 hl) n1 n2
  · intro i b k h hk hn
    rcases split_ i b h with ⟨_, rfl⟩ | ⟨_, h⟩
    · exact (g.new _ (Nat.le_refl _)).1
    · exact r.lim i b k h (old h hk) hn
  · intro i off b k cs hm hf hk hb
    rcases split_ i b hf with ⟨rfl, _⟩ | ⟨_, hf⟩
    · have := (ow.dom _ off hm).lt; omega
    · rw [gr.below.block b (g.fin i b hf).1] at hb
      exact (ow.cell i off b k cs hm hf (old hf hk) hb).grow gr
theorem clone_ok {f : FuncId} (h : CloneOk P f) : ShortOk P f cloneF where
  sound := by
    intro lo f1 args H own out hc G w vals g hH ho ha
    simp only at hc
    split at hc
    case isFalse => cases hc
    rename_i he
    subst he
    unfold cloneF at hc
    split at hc
    · rename_i id
      split at hc
      · rename_i l hl
        injection hc with hc
        subst hc
        obtain ⟨v, rfl, hv⟩ := args_one' ha
        obtain ⟨b, hf, rfl⟩ := map_inv hv
        obtain ⟨es, cl, hm, e1, e2, hst⟩ := map_at hH hl hf
        refine (h.1 b es cl w hm).mono ?_
        rintro e w' ⟨rfl, rfl⟩
        exact ⟨_, _, rfl, clone_done g hH ho hl hf hm e1 e2 hst⟩
      · cases hc
    · injection hc with hc
      subst hc
      obtain ⟨v, rfl, hv⟩ := args_one' ha
      cases hv
      refine (h.2 w).mono ?_
      rintro e w' ⟨rfl, rfl⟩
      exact ⟨_, G, rfl, ⟨Ext.refl _ _, g, hH, .nilm, ho⟩⟩
    · cases hc
  loc := by
    intro lo
    constructor
    · intro f1 args H own x H' own' hc hlo
      simp only at hc
      split at hc
      case isFalse => cases hc
      unfold cloneF at hc
      split at hc
      · split at hc
        · injection hc with hc; injection hc with h1 hc; injection hc with h2 h3; subst h2
          exact Lock.app hlo _
        · cases hc
      · injection hc with hc; injection hc with h1 hc; injection hc with h2 h3; subst h2; exact Lock.refl _ _
      · cases hc
    · intro f1 args H own x H' own' p k hc hp
      simp only at hc ⊢
      split at hc
      case isFalse => cases hc
      rename_i he
      rw [if_pos he]
      have hpl : p < H.length := (List.getElem?_eq_some_iff.1 hp).1
      unfold cloneF at hc ⊢
      split at hc
      · split at hc
        · rename_i id l hl
          injection hc with hc; injection hc with h1 hc; injection hc with h2 h3; subst h1 h2 h3
          refine ⟨by rw [List.getElem?_append_left hpl]; exact hp, ?_⟩
          simp only [getMap_fill hl hp, List.length_set]
          rw [List.set_append_left _ _ hpl]
        · cases hc
      · injection hc with hc; injection hc with h1 hc; injection hc with h2 h3; subst h1 h2 h3
        exact ⟨hp, rfl⟩
      · cases hc
end
end Go.Proofs.YtklecelgejlihaaGreatDoor.Am

/- The laws by heart, at a seat. -/
namespace Go.Proofs.YtklecelgejlihaaGreatDoor.Am
open Go.RowKit Go.Maps Go.Sort Go.Shelf
set_option linter.unusedVariables false

theorem keysFile_ok : KeysOk Tryz.prog 9 87 := fun Bm b nn D0 w hBm hm hown =>
  AnyZ.keys_gives (ρ := Tryz.keys55_ren) { Tryz.keys55 with } Fence.wide 2 trivial rfl (by omega) Bm b nn D0 w hBm hm hown
theorem sorts_in (m : Nat) : AnyZ.SortsIn Tryz.prog Tryz.sorted54_ren Fence.wide m :=
  ⟨fun blk off cap ss W hH hblk hsz => callsIn_wide.2 (AnyM.slices_Sort_string Tryz.sort86 blk off cap ss W hH hblk hsz),
   fun p cap W => callsIn_wide.2 (AnyM.slices_Sort_string_none Tryz.sort86 p cap W)⟩
theorem sorted_ok : SortedOk Tryz.prog 54 9 [87] := fun g hg lb S N hN hNb w hseq => by
  have hf : ∃ fn, Tryz.prog.funcs[g]? = some fn ∧ (∀ args w, (callFunc g args).run Tryz.prog w = .ok (.enter g args) w) := by
    rcases List.mem_cons.1 hg with rfl | hg
    · exact ⟨_, Tryz.func87, enters_of Tryz.func87 (by kernel_rfl) rfl⟩
    · cases hg
  obtain ⟨fn, _, hent⟩ := hf
  exact (callsIn_wide (n := 5)).1 (AnyZ.sorted_in Tryz.sorted54 Fence.wide 5 trivial trivial trivial trivial rfl (by omega) (sorts_in _) (enters_of Tryz.func86 (by kernel_rfl) rfl) g lb trivial hent S N hN hNb w hseq)
theorem cloneFile_ok : CloneOk Tryz.prog 56 := ⟨fun b es clock w hb => AnyW.maps_Clone Tryz.clone56 b es clock w hb, fun w => AnyW.maps_Clone_nil Tryz.clone56 w⟩

/-! ### strconv.Itoa, strings.Repeat -/
def itoaF : List AV → Option AV
  | [.int .i64 n] => if 0 ≤ n ∧ n < 100 then some (.str (numeral n.toNat)) else none
  | _ => none
theorem itoa_at : QuietAt Tryz.prog 36 itoaF := by
  intro args x hx G w vals g ha
  unfold itoaF at hx
  split at hx
  · rename_i n
    split at hx
    · rename_i hl
      injection hx with hx
      subst hx
      obtain ⟨v, rfl, h1⟩ := args_one' ha
      rw [int_inv h1]
      obtain ⟨c, rfl⟩ : ∃ c : Nat, n = c := ⟨n.toNat, by omega⟩
      refine (Tryz.strconv_Itoa_small c (by omega) w).mono ?_
      rintro e w' ⟨rfl, rfl⟩
      refine ⟨_, rfl, Below.refl _ _, .inl ?_⟩
      rw [Int.toNat_natCast, numeral_dec (by omega)]
      exact .str _
    · cases hx
  · cases hx
def repL (s : Bytes) : Nat → Bytes
  | 0 => []
  | c + 1 => s ++ repL s c
theorem repL_eq (s : Bytes) : ∀ c, repL s c = Lib.repeatL s c
  | 0 => rfl
  | c + 1 => by rw [repL, Lib.repeatL, repL_eq s c]
def repF : List AV → Option AV
  | [.str s, .int .i64 n] => if 0 ≤ n ∧ n ≤ 1000000 ∧ s.length ≤ 1000000 then some (.str (repL s n.toNat)) else none
  | _ => none
theorem rep_at : QuietAt Tryz.prog 37 repF := by
  intro args x hx G w vals g ha
  unfold repF at hx
  split at hx
  · rename_i s n
    split at hx
    · rename_i hl
      injection hx with hx
      subst hx
      obtain ⟨v, u, rfl, h1, h2⟩ := args_two ha
      rw [str_inv h1, int_inv h2]
      obtain ⟨c, rfl⟩ : ∃ c : Nat, n = c := ⟨n.toNat, by omega⟩
      have hsz : (⟨⟨s⟩⟩ : ByteArray).size = s.length := rfl
      refine (Tryz.strings_Repeat ⟨⟨s⟩⟩ c w (by omega) (by rw [hsz]; have := Nat.mul_le_mul hl.2.2 (by omega : c ≤ 1000000); omega)).mono ?_
      rintro e w' ⟨rfl, hB⟩
      refine ⟨_, rfl, hB, .inl ?_⟩
      rw [Int.toNat_natCast, repL_eq]
      exact .str _
    · cases hx
  · cases hx
def libs : List (FuncId × ShortF) := [(43, reads_ usedF), (54, reads_ (sortedF 9 [87])), (56, cloneF), (36, quiet itoaF), (37, quiet repF)]
theorem libs_ok : AllOk Tryz.prog libs :=
  ⟨reads_ok used_at used_fills, reads_ok (sorted_reads Tryz.underlying9 (by kernel_rfl) (by intro g hg; rcases List.mem_cons.1 hg with rfl | hg; exact keysFile_ok; cases hg) sorted_ok) sorted_fills, clone_ok cloneFile_ok, quiet_ok itoa_at, quiet_ok rep_at, trivial⟩
end Go.Proofs.YtklecelgejlihaaGreatDoor.Am
