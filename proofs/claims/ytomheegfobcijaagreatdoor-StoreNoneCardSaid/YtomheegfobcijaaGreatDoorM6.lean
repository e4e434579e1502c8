/- Bytes and numbers: what the library's functions answer, as plain functions on bytes, and that these are the shelf's. -/
import Derived.Test.YtomheegfobcijaaGreatDoorM5
import Derived.Lib.Split
import Derived.Lib.CutLaws
import Derived.Lib.IndexBytes
import Derived.Lib.ItoaNum
import Derived.Test.YtomheegfobcijaaGreatDoorProg
import Derived.Maps.RangeRun
import Derived.WalkKit
import Derived.Below
import Derived.Shelf.SlMaps.Clone
import Derived.Ground.GgzProg
import Derived.Ground.SlgmProg
import Derived.Ground.SlmcProg
import Derived.Shelf.SlIter.Nil
import Derived.Shelf.SortM.Plain
import Derived.Shelf.SortM.SortNone
import Derived.Shelf.Strings.Builder1
import Derived.Shelf.Strings.Builder2
import Derived.Shelf.Small.Bits
import Derived.Shelf.Strings.BuilderF
import Derived.Shelf.Strconv.Atoi
import Derived.Shelf.Strconv.Itoa0
import Derived.Shelf.Strconv.Itoa1
import Derived.Shelf.LaysM
import Derived.Shelf.Strconv.Itoa2
import Derived.Shelf.Strconv.Itoa3
import Derived.Shelf.Strconv.AtoiErrFast
import Derived.Shelf.Strconv.ParseIntEmpty
import Derived.Shelf.Strconv.AtoiFail
import Derived.Shelf.Strconv.Clone
import Derived.Shelf.Strconv.SyntaxError
import Derived.Shelf.LaysC
import Derived.Shelf.Strconv.ToError
import Derived.Shelf.Strconv.Lower
import Derived.Shelf.Strconv.ParseUint10
import Derived.Shelf.Strconv.ParseUint10Empty
import Derived.Shelf.Strconv.ParseUint10Any
import Derived.Shelf.Strconv.ParseInt10
import Derived.Shelf.Strconv.AtoiLong
import Derived.Shelf.Strconv.AtoiInnerAll
import Derived.Shelf.Strconv.RangeError
import Derived.Shelf.Strconv.ToErrorRange
import Derived.Shelf.Strconv.AtoiAll
import Derived.Shelf.Strconv.ErrVarAll
import Derived.Ground.MpProg
import Derived.Shelf.Pu.ParseUintPublic10
import Derived.Shelf.Pu.ErrVarParseUint
import Derived.Shelf.Strings.Search1
import Derived.Shelf.Strings.Search2
import Derived.Shelf.Strings.Cut
import Derived.Shelf.Strings.Shaped
import Derived.Shelf.Sort.Plain
import Derived.Shelf.Strings.Prefix
import Derived.Shelf.Bits.Mul64
import Derived.Shelf.Strings.Repeat
import Derived.Shelf.Slices.In.SortNone
import Derived.Shelf.SlIter.Collect
import Derived.KernelRfl
import Derived.Test.YtomheegfobcijaaGreatDoorM1
/- Bytes and numbers: what the library's functions answer, as plain functions on bytes, and that these are the shelf's. -/
namespace Go.Proofs.YtomheegfobcijaaGreatDoor.Am
open Go.RowKit
set_option linter.unusedVariables false
set_option linter.unusedSimpArgs false

abbrev Bytes := List UInt8
/-- A number's digits. -/
def digs : Nat → Nat → Bytes
  | 0, u => []
  | n + 1, u => if u < 10 then [UInt8.ofNat (48 + u)] else digs n (u / 10) ++ [UInt8.ofNat (48 + u % 10)]
def numeral (u : Nat) : Bytes := digs 20 u
theorem digs_dec : ∀ (n u : Nat), u < 10 ^ (n + 1) → digs (n + 1) u = Lib.decDigits u
  | 0, u, h => by
    have h : u < 10 := by simpa using h
    rw [digs, Lib.decDigits, if_pos h, dif_pos h]
  | n + 1, u, h => by
    rw [digs, Lib.decDigits]
    split
    · rfl
    · rw [digs_dec n (u / 10) (by rw [Nat.pow_succ] at h; omega)]
theorem numeral_dec {u : Nat} (h : u < 18446744073709551616) : numeral u = Lib.decDigits u := digs_dec 19 u (by omega)
theorem args_one' {P : Program} {M : Mem} {a : AV} {vals : Array Value} (h : ArgsRep P M [a] vals) : ∃ v, vals = #[v] ∧ Rep P M a v := by
  obtain ⟨h1, h2⟩ := h
  have e : vals.size = 1 := h1
  refine ⟨vals[0], ?_, ?_⟩
  · apply Array.ext
    · simpa using e
    · intro i h3 h4
      have : i = 0 := by simp at h4; omega
      subst this; rfl
  · have := h2 0 (by simp); simpa [Array.getD_eq_getD_getElem?, e] using this
theorem args_two {P : Program} {M : Mem} {a b : AV} {vals : Array Value} (h : ArgsRep P M [a, b] vals) : ∃ v u, vals = #[v, u] ∧ Rep P M a v ∧ Rep P M b u := by
  obtain ⟨h1, h2⟩ := h
  have e : vals.size = 2 := h1
  refine ⟨vals[0], vals[1], ?_, ?_, ?_⟩
  · apply Array.ext
    · simpa using e
    · intro i h3 h4
      have : i = 0 ∨ i = 1 := by simp at h4; omega
      rcases this with rfl | rfl <;> rfl
  · have := h2 0 (by simp); simpa [Array.getD_eq_getD_getElem?, e] using this
  · have := h2 1 (by simp); simpa [Array.getD_eq_getD_getElem?, e] using this
theorem args_three {P : Program} {M : Mem} {a b c : AV} {vals : Array Value} (h : ArgsRep P M [a, b, c] vals) : ∃ v u t, vals = #[v, u, t] ∧ Rep P M a v ∧ Rep P M b u ∧ Rep P M c t := by
  obtain ⟨h1, h2⟩ := h
  have e : vals.size = 3 := h1
  refine ⟨vals[0], vals[1], vals[2], ?_, ?_, ?_, ?_⟩
  · apply Array.ext
    · simpa using e
    · intro i h3 h4
      have : i = 0 ∨ i = 1 ∨ i = 2 := by simp at h4; omega
      rcases this with rfl | rfl | rfl <;> rfl
  · have := h2 0 (by simp); simpa [Array.getD_eq_getD_getElem?, e] using this
  · have := h2 1 (by simp); simpa [Array.getD_eq_getD_getElem?, e] using this
  · have := h2 2 (by simp); simpa [Array.getD_eq_getD_getElem?, e] using this

theorem flat_strs (xs : List Bytes) : flat (xs.map AV.str) = xs.map AV.str := by
  induction xs with
  | nil => rfl
  | cons x r ih => show AV.str x :: flat (r.map AV.str) = _; rw [ih]; rfl
end Go.Proofs.YtomheegfobcijaaGreatDoor.Am

/- Functions of which it is told by heart what they answer, by their arguments and by what lies in memory; nobody's memory is turned. -/
namespace Go.Proofs.YtomheegfobcijaaGreatDoor.Am
set_option linter.unusedVariables false
set_option linter.unusedSimpArgs false
open Go.RowKit

abbrev HF := List (Option Blk) → List AV → Option AV
def reads_ (F : HF) : ShortF := fun _ args H own => (F H args).map fun x => (x, H, own)
/-- What a contract says of a function. -/
def ReadsAt (P : Program) (f : FuncId) (F : HF) : Prop := ∀ H args x, F H args = some x → ∀ (G : Gh) (w : World) (vals : Array Value), GOk G w → HeapRel P G H w → ArgsRep P (G.mem w) args vals →
  Calls P f vals w fun e w' => ∃ v, e = .returned v ∧ Below w.heap.size w w' ∧ (Rep P (G.mem w') x v ∨ ∃ q n, w.heap.size ≤ q ∧ q < w'.heap.size ∧ Rep P ((G.list q n none).mem w') x v)
def Fills (F : HF) : Prop := ∀ H args x p k, F H args = some x → H[p]? = some none → F (H.set p (some k)) args = some x
section
variable {P : Program}
theorem list_grow_at {G : Gh} {w : World} (g : GOk G w) {w' : World} (hb : Below w.heap.size w w') {q : Nat} (hq : w.heap.size ≤ q) (n : Nat) (o : Option Loc) : Grow G w (G.list q n o) w' where
  below := hb
  lim := fun b hb => upd_ne _ _ (by omega)
  owner := fun b hb => upd_ne _ _ (by omega)
  bs := fun _ _ => rfl
  f := fun _ _ h => h
  fnew := fun _ _ h => .inl h
theorem list_gok_at {G : Gh} {w : World} (g : GOk G w) {w' : World} (hB : Below w.heap.size w w') {q : Nat} (hq : w.heap.size ≤ q) (hb : q < w'.heap.size) (n : Nat) (o : Option Loc) : GOk (G.list q n o) w' where
  fin := fun i b h => by
    obtain ⟨h1, h3⟩ := g.fin i b h
    exact ⟨by have := hB.size; omega, by show upd _ _ _ b = none; rw [upd_ne _ _ (by omega)]; exact h3⟩
  new := fun b hb' => by
    obtain ⟨h1, h2, h3⟩ := g.new b (by omega)
    exact ⟨by show upd _ _ _ b = 0; rw [upd_ne _ _ (by omega)]; exact h1, by show upd _ _ _ b = none; rw [upd_ne _ _ (by omega)]; exact h2, h3⟩
  held := ((list_grow_at g hB hq n o).ext g).held g.held
theorem list_rep_at {G : Gh} {w : World} (g : GOk G w) {w' : World} (hb : Below w.heap.size w w') {q : Nat} (hq : w.heap.size ≤ q) {cs : Array Value} {e0 : TypeId} {fr : Nat × Nat} (hn : w'.heap[q]? = some (.cells cs e0 fr)) {e : TypeId} {xs : List AV} {sz cap : Nat} (o : Option Loc)
    (hsz : sizeT P e = some sz) (hz : 0 < sz) (hall : ∀ x ∈ xs, x.cells.length = sz) (hcap : xs.length ≤ cap)
    (hr : ∀ j, j < (flat xs).length → j < cs.size ∧ Rep P (G.mem w) ((flat xs).getD j .undef) (cs.getD j undef) ∧ (cs.getD j undef).oneCell' = true) :
    Rep P ((G.list q (xs.length * sz) o).mem w') (.lst e xs []) (.slice (some ⟨q, 0, none⟩) xs.length cap) := by
  have hfl := flat_len xs hall
  refine .lst e xs [] _ cap sz q 0 (fun j => cs.getD j undef) hsz hz (by simpa using hall) (by simpa using hcap) (fun _ => rfl) ?_ ?_ ?_
  · intro j hj
    simp only [List.append_nil] at hj
    obtain ⟨h1, _, _⟩ := hr j hj
    show pmOf w' _ _ _ = _
    unfold pmOf
    have : (G.list q (xs.length * sz) o).lim q = xs.length * sz := upd_same _ _ _
    rw [this, if_pos (by omega)]
    simp [World.cell?, hn, h1]
  · intro j hj
    simp only [List.append_nil] at hj ⊢
    exact ((list_grow_at g hb hq _ o).ext g).rep (hr j hj).2.1
  · intro j hj
    simp only [List.append_nil] at hj
    exact (hr j hj).2.2
theorem reads_ok {f : FuncId} {F : HF} (h : ReadsAt P f F) (hf : Fills F) : ShortOk P f (reads_ F) where
  sound := by
    intro lo f1 args H own out hc G w vals hgl g hH ho ha
    simp only at hc
    split at hc
    case isFalse => cases hc
    rename_i he
    subst he
    unfold reads_ at hc
    cases hx : F H args with
    | none => rw [hx] at hc; cases hc
    | some x =>
      rw [hx] at hc
      injection hc with hc
      subst hc
      refine (h H args x hx G w vals g hH ha).mono ?_
      rintro e w' ⟨v, rfl, hb, hr | ⟨q, n, hq, hlt, hr⟩⟩
      · exact ⟨v, G, rfl, ⟨(below_grow hb).ext g, below_gok g hb, hH.grow (below_grow hb) g (fun _ _ h => h), hr, cellOwns_grow (below_grow hb) g (fun _ _ h => h) ho⟩⟩
      · exact ⟨v, _, rfl, ⟨(list_grow_at g hb hq n none).ext g, list_gok_at g hb hq hlt n none, hH.grow (list_grow_at g hb hq n none) g (fun _ _ h => h), hr, cellOwns_grow (list_grow_at g hb hq n none) g (fun _ _ h => h) ho⟩⟩
  loc := by
    intro lo
    constructor
    · intro f args H own x H' own' h _
      simp only at h
      split at h
      case isFalse => cases h
      unfold reads_ at h
      cases hx : F H args with
      | none => rw [hx] at h; cases h
      | some y => rw [hx] at h; injection h with h; injection h with h1 h; injection h with h2 h3; subst h2; exact Lock.refl _ _
    · intro f args H own x H' own' p k h hp
      simp only at h ⊢
      split at h
      case isFalse => cases h
      rename_i he
      rw [if_pos he]
      unfold reads_ at h ⊢
      cases hx : F H args with
      | none => rw [hx] at h; cases h
      | some y =>
        rw [hx] at h; injection h with h; injection h with h1 h; injection h with h2 h3; subst h1 h2 h3
        exact ⟨hp, by rw [hf H args y p k hx hp]; rfl⟩

/-- A block of cells. -/
def getBlk (H : List (Option Blk)) (id : Nat) : Option Blk :=
  match H[id]? with
  | some (some k) => cond (Nat.beq k.e LOOP) none (some k)
  | _ => none
theorem getBlk_some {H : List (Option Blk)} {id : Nat} {k : Blk} (h : getBlk H id = some k) : H[id]? = some (some k) ∧ Nat.beq k.e LOOP = false := by
  unfold getBlk at h
  split at h
  · rename_i k' hk
    cases hb : Nat.beq k'.e LOOP with
    | true => rw [hb] at h; cases h
    | false => rw [hb] at h; injection h with h; subst h; exact ⟨hk, hb⟩
  · cases h
theorem getBlk_fill {H : List (Option Blk)} {id p : Nat} {k k' : Blk} (h : getBlk H id = some k) (hp : H[p]? = some none) : getBlk (H.set p (some k')) id = some k := by
  have hne : p ≠ id := by rintro rfl; rw [(getBlk_some h).1] at hp; cases hp
  unfold getBlk at h ⊢
  rw [List.getElem?_set_ne hne]; exact h
theorem getMap_fill {H : List (Option Blk)} {id p : Nat} {l : List (AV × AV)} {k' : Blk} (h : getMap H id = some l) (hp : H[p]? = some none) : getMap (H.set p (some k')) id = some l := by
  have hne : p ≠ id := by rintro rfl; rw [getMap_some h] at hp; cases hp
  unfold getMap at h ⊢
  rw [List.getElem?_set_ne hne]; exact h
theorem blk_of {G : Gh} {H : List (Option Blk)} {w : World} (hH : HeapRel P G H w) {id b : Nat} {k : Blk} (hf : G.f id = some b) (h : getBlk H id = some k) : ∃ cs, w.heap[b]? = some (.cells cs k.e (0, 0)) ∧ (∀ j, j < k.cs.length → w.cell? ⟨b, j, none⟩ = some (cs.getD j undef)) ∧
    ∀ j, j < k.cs.length → Rep P (G.mem w) (k.cs.getD j .undef) (cs.getD j undef) := by
  obtain ⟨h1, h2⟩ := getBlk_some h
  obtain ⟨cs, q1, q2, _, q4, _⟩ := blk_cell (hH.blk id b k hf h1) h2
  exact ⟨cs, q1, q2, q4⟩
end
end Go.Proofs.YtomheegfobcijaaGreatDoor.Am

/- disk.Used, by heart: how many bytes all files have, whatever order a range over the map has. -/
namespace Go.Proofs.YtomheegfobcijaaGreatDoor.Am
open Go.RowKit Go.Maps
set_option linter.unusedVariables false
set_option linter.unusedSimpArgs false
theorem run_entry_at {P : Program} (w : World) (r m since clock : Nat) (seen : Array Nat) (es : Array MapEntry) (e : MapEntry) (hr : w.heap[r]? = some (.mapIter (some m) since (seen.push e.born) clock)) (hb : w.heap[m]? = some (.map es clock)) (he : e ∈ es.toList) (hn : (es.toList.map (·.born)).Nodup) :
    (Instr.entry (.pointer (some ⟨r, 0, none⟩))).run P w = .ok (.tuple #[e.key, e.val]) w := by
  have hf : es.find? (·.born == e.born) = some e := by rw [← Array.find?_toList]; exact find_born e es.toList hn he
  simp only [Instr.entry, getObj, Sem.run_bind, Sem.run, hr, hb, Result.andThen, Array.back?_push, bne_self_eq_false, Bool.false_eq_true, if_false, hf]
  rfl
/-- How long the file is to which a pointer leads. -/
def fileLen (w : World) : Value → Int
  | .pointer (some a) => match w.cell? a with
    | some (.string s) => s.size
    | _ => 0
  | _ => 0
def sized (w : World) (es : List MapEntry) : List MapEntry := es.map fun e => { e with val := .int .i64 (fileLen w e.val) }
theorem sized_born (w : World) (es : List MapEntry) : (sized w es).map (·.born) = es.map (·.born) := by
  unfold sized; rw [List.map_map]; rfl
theorem sized_bound (w : World) : ∀ (es : List MapEntry) (seen : Array Nat), (∀ x ∈ es, 0 ≤ fileLen w x.val) → 0 ≤ seenSum (sized w es) seen ∧ seenSum (sized w es) seen ≤ (es.map fun e => fileLen w e.val).sum
  | [], _, _ => by simp [sized, seenSum]
  | x :: l, seen, h => by
    have ih := sized_bound w l seen fun y hy => h y (by simp [hy])
    have hx := h x (by simp)
    unfold sized at ih ⊢
    simp only [List.map_cons, seenSum, List.sum_cons, valOf]
    split <;> omega
theorem seenSum_all' (w : World) (es : Array MapEntry) (seen : Array Nat) (h0 : (leftOf es seen).size = 0) : seenSum (sized w es.toList) seen = (es.toList.map fun e => fileLen w e.val).sum := by
  rw [seenSum_full seen _ fun x hx => ?_]
  · unfold sized; rw [List.map_map]; rfl
  · unfold sized at hx
    obtain ⟨y, hy, rfl⟩ := List.mem_map.1 hx
    exact all_seen es seen h0 y hy
theorem fileLen_nonneg (w : World) (v : Value) : 0 ≤ fileLen w v := by
  unfold fileLen
  split
  · split <;> omega
  · omega
set_option maxRecDepth 100000 in
theorem used_walk (w : World) (b m : Nat) (cs : Array Value) (fr : Nat × Nat) (es : Array MapEntry) (clock : Nat) (hb : w.heap[b]? = some (.cells cs 223 fr)) (h3 : w.cell? ⟨b, 3, none⟩ = some (.bool false)) (h4 : w.cell? ⟨b, 4, none⟩ = some (.map (some m)))
    (hm : w.heap[m]? = some (.map es clock)) (hst : MapKept.Stamped es clock) (hval : ∀ x ∈ es.toList, ∃ a s, x.val = .pointer (some ⟨a, 0, none⟩) ∧ w.cell? ⟨a, 0, none⟩ = some (.string s)) (hsum : (es.toList.map fun e => fileLen w e.val).sum ≤ 4611686018427387904) :
    Calls Tryz.prog 175 #[.pointer (some ⟨b, 0, none⟩)] w fun e w' => e = .returned (.int .i64 ((es.toList.map fun e => fileLen w e.val).sum)) ∧ Below w.heap.size w w' := by
  have hst2 := (MapKept.stamped_iff es clock).1 hst
  have hrg := run_range_map (P := Tryz.prog) w 219 9 220 m es clock Tryz.underlying219 hm
  have hq := fun w => run_eql_map_nil_sl (P := Tryz.prog) w 219 _ _ (some m) Tryz.underlying219
  go_enter Tryz.func175, Tryz.ntmps175
  go_wp2

  go_loopw [3] (fun n wr => ∃ (seen : Array Nat) (c0 : Nat), n = .int .i64 (seenSum (sized w es.toList) seen) ∧ wr.heap[w.heap.size]? = some (.mapIter (some m) clock seen c0) ∧ clock ≤ c0 ∧ Below w.heap.size w wr)
    (fun _ wr => (leftOf es (wr.iterSeen w.heap.size)).size)
  case atStart =>
    exact ⟨#[], clock, by rw [seenSum_none], heap_alloc_new w _, Nat.le_refl _, (Below.refl _ w).alloc (Nat.le_refl _) _⟩
  case round =>
    obtain ⟨seen, c0, rfl, hr, hc0, hB⟩ := hrel
    have hlt : m < w.heap.size := (Array.getElem?_eq_some_iff.1 hm).1
    have hm' : wr.heap[m]? = some (.map es clock) := (hB.block m hlt).trans hm
    have hseen : wr.iterSeen w.heap.size = seen := by unfold World.iterSeen; rw [hr]
    rcases run_next_at (P := Tryz.prog) wr 0 w.heap.size m clock c0 seen es clock hr hm' hst2.1 hc0 with ⟨h0, hrun⟩ | ⟨e, he, w1, hw1, hrun⟩
    · go_wp2
      go_ret
      exact ⟨by rw [seenSum_all' w es seen h0]; rfl, hB⟩
    · obtain ⟨hem, hes⟩ := mem_left he
      obtain ⟨fa, fs, hva, hfs⟩ := hval e hem
      have hs1 : w1.heap = wr.heap := by rcases hw1 with rfl | rfl <;> rfl
      have hr1 : w1.heap[w.heap.size]? = some (.mapIter (some m) clock seen c0) := by rw [hs1]; exact hr
      have hset := MapKept.heap_set (w := w1) (o' := .mapIter (some m) clock (seen.push e.born) clock) hr1
      obtain ⟨w2, hw2⟩ : ∃ w2, w2 = Go.ChangeMaps.setBlock w1 w.heap.size (.mapIter (some m) clock (seen.push e.born) clock) := ⟨_, rfl⟩
      have hr2 : w2.heap[w.heap.size]? = some (.mapIter (some m) clock (seen.push e.born) clock) := by rw [hw2]; exact hset.1
      have hB2 : Below w.heap.size w w2 := by
        have hB1 : Below w.heap.size w w1 := by rcases hw1 with rfl | rfl; exact hB; exact hB.drew
        subst hw2
        refine ⟨hB1.os, hB1.tape, hB1.output, by show _ ≤ (Array.setIfInBounds _ _ _).size; rw [Array.size_setIfInBounds]; exact hB1.size, fun i hi => ?_⟩
        exact (hset.2 i (by omega)).trans (hB1.block i hi)
      rw [← hw2] at hrun
      have hm2 : w2.heap[m]? = some (.map es clock) := (hB2.block m hlt).trans hm
      have hent := run_entry_at (P := Tryz.prog) w2 w.heap.size m clock clock seen es e hr2 hm2 hem hst2.2.1
      have hfl : fileLen w e.val = fs.size := by rw [hva]; show (match w.cell? _ with | some (.string s) => _ | _ => _) = _; rw [hfs]
      have hc2 : w2.cell? ⟨fa, 0, none⟩ = some (.string fs) := by
        rw [hB2.cell (World.block_lt_of_cell? w _ hfs)]; exact hfs
      have hadd : seenSum (sized w es.toList) (seen.push e.born) = seenSum (sized w es.toList) seen + fs.size := by
        have := seenSum_push seen { e with val := .int .i64 (fileLen w e.val) } hes (sized w es.toList) (by rw [sized_born]; exact hst2.2.1) (List.mem_map.2 ⟨e, hem, rfl⟩)
        rw [this, ← hfl]; rfl
      have hbd := sized_bound w es.toList (seen.push e.born) fun x _ => fileLen_nonneg w x.val
      have hseen2 : w2.iterSeen w.heap.size = seen.push e.born := by unfold World.iterSeen; rw [hr2]
      rw [hva] at hent
      clear hw2
      go_wp2
      exact ⟨⟨seen.push e.born, clock, by rw [hadd], hr2, Nat.le_refl _, hB2⟩, by rw [hseen2, hseen]; exact left_shrinks es seen e he⟩
end Go.Proofs.YtomheegfobcijaaGreatDoor.Am

/-
  DERIVED: THE SHELF's CONTRACTS AT THIS DUMP, IN PLAIN WORDS (tools/lay-plain.mjs out of 'TryzShelf.lean', which tools/lay-shelf.mjs wrote): THE SAME DECLARATIONS UNDER THE SAME NAMES: 'import', 'namespace', 'open', 'def', 'theorem' AND NOTHING ELSE: no command of the shelf's: FOR A HAND-IN. Each laying: the table of numbers ('.._ren') and one theorem, a field a fact of the dump's own or the kernel's comparison; each contract: ONE APPLICATION.
-/
namespace Go.Proofs
open Go.Shelf
def Tryz.lays171_ren : Go.Shelf.Ren := ⟨fun | 171 => 160 | 243 => 241 | 246 => 314 | 283 => 277 | 284 => 278 | 285 => 279 | 286 => 280 | 129 => 253 | 317 => 330 | 318 => 331 | 319 => 332 | 320 => 333 | 337 => 357 | 338 => 358 | n => n, fun | 3 => 3 | 9 => 9 | 2 => 2 | 4 => 4 | 171 => 379 | 0 => 0 | 53 => 29 | 37 => 268 | 5 => 5 | 173 => 381 | 212 => 435 | 51 => 356 | 20 => 20 | 213 => 436 | 46 => 240 | 232 => 476 | 233 => 477 | n => n, fun | 17 => 4 | 18 => 5 | 19 => 6 | n => n⟩
theorem Tryz.lays171 : Go.Proofs.Lays.n171 Tryz.prog Tryz.lays171_ren := {
  mixed := by kernel_rfl
  f129 := Tryz.func253.trans (congrArg some (by kernel_rfl))
  f171 := Tryz.func160.trans (congrArg some (by kernel_rfl))
  f243 := Tryz.func241.trans (congrArg some (by kernel_rfl))
  f246 := Tryz.func314.trans (congrArg some (by kernel_rfl))
  f283 := Tryz.func277.trans (congrArg some (by kernel_rfl))
  f284 := Tryz.func278.trans (congrArg some (by kernel_rfl))
  f285 := Tryz.func279.trans (congrArg some (by kernel_rfl))
  f286 := Tryz.func280.trans (congrArg some (by kernel_rfl))
  f317 := Tryz.func330.trans (congrArg some (by kernel_rfl))
  f318 := Tryz.func331.trans (congrArg some (by kernel_rfl))
  f319 := Tryz.func332.trans (congrArg some (by kernel_rfl))
  f320 := Tryz.func333.trans (congrArg some (by kernel_rfl))
  f337 := Tryz.func357.trans (congrArg some (by kernel_rfl))
  f338 := Tryz.func358.trans (congrArg some (by kernel_rfl))
  t0 := Tryz.underlying0
  a0 := Tryz.isAgg0
  z0 := Tryz.sizeOf0
  v0 := Tryz.zeroValue0
  t2 := Tryz.underlying2
  a2 := Tryz.isAgg2
  z2 := Tryz.sizeOf2
  v2 := Tryz.zeroValue2
  t3 := Tryz.underlying3
  a3 := Tryz.isAgg3
  z3 := Tryz.sizeOf3
  v3 := Tryz.zeroValue3
  t4 := Tryz.underlying4
  a4 := Tryz.isAgg4
  z4 := Tryz.sizeOf4
  v4 := Tryz.zeroValue4
  t5 := Tryz.underlying5
  a5 := Tryz.isAgg5
  z5 := Tryz.sizeOf5
  v5 := Tryz.zeroValue5
  t9 := Tryz.underlying9
  a9 := Tryz.isAgg9
  z9 := Tryz.sizeOf9
  v9 := Tryz.zeroValue9
  t20 := Tryz.underlying20
  a20 := Tryz.isAgg20
  z20 := Tryz.sizeOf20
  v20 := Tryz.zeroValue20
  t37 := Tryz.underlying268
  a37 := Tryz.isAgg268
  z37 := Tryz.sizeOf268
  v37 := Tryz.zeroValue268
  t46 := Tryz.underlying240
  a46 := Tryz.isAgg240
  z46 := Tryz.sizeOf240
  v46 := Tryz.zeroValue240
  t51 := Tryz.underlying356
  a51 := Tryz.isAgg356
  z51 := Tryz.sizeOf356
  v51 := Tryz.zeroValue356
  t53 := Tryz.underlying29
  a53 := Tryz.isAgg29
  z53 := Tryz.sizeOf29
  v53 := Tryz.zeroValue29
  t171 := Tryz.underlying379
  a171 := Tryz.isAgg379
  z171 := Tryz.sizeOf379
  v171 := Tryz.zeroValue379
  t173 := Tryz.underlying381
  a173 := Tryz.isAgg381
  z173 := Tryz.sizeOf381
  v173 := Tryz.zeroValue381
  t212 := Tryz.underlying435
  a212 := Tryz.isAgg435
  z212 := Tryz.sizeOf435
  v212 := Tryz.zeroValue435
  t213 := Tryz.underlying436
  a213 := Tryz.isAgg436
  z213 := Tryz.sizeOf436
  t232 := Tryz.underlying476
  a232 := Tryz.isAgg476
  z232 := Tryz.sizeOf476
  v232 := Tryz.zeroValue476
  t233 := Tryz.underlying477
  a233 := Tryz.isAgg477
  z233 := Tryz.sizeOf477
  v233 := Tryz.zeroValue477
  g17 := by kernel_rfl
  g18 := by kernel_rfl
  g19 := by kernel_rfl }
open Go.RowKit Go.Sort Go.Lib in
/-- THE ROAD WITHOUT THE TABLE: 0 <= i < 100: NO PREMISE ON THE WORLD, AND THE WORLD IS AS IT WAS: a row that keeps its argument in that range need list no table ('laid = []'). (LAID: no walk: one application.) -/
theorem Tryz.strconv_Itoa_small (i : Nat) (hi : i < 100) (w : World) :
    Calls Tryz.prog 160 #[.int .i64 i] w fun e w' => e = .returned (.string ⟨(Lib.decDigits i).toArray⟩) ∧ w' = w := Any.strconv_Itoa_small Tryz.lays171 i hi w
def Tryz.laysM316_ren : Go.Shelf.Ren := ⟨fun | 316 => 130 | n => n, fun | 9 => 9 | 3 => 3 | 4 => 4 | 37 => 268 | 0 => 0 | 127 => 321 | 5 => 5 | n => n, fun | n => n⟩
theorem Tryz.laysM316 : Go.Proofs.LaysM.n316 Tryz.prog Tryz.laysM316_ren := {
  mixed := by kernel_rfl
  f316 := Tryz.func130.trans (congrArg some (by kernel_rfl))
  t0 := Tryz.underlying0
  a0 := Tryz.isAgg0
  z0 := Tryz.sizeOf0
  v0 := Tryz.zeroValue0
  t3 := Tryz.underlying3
  a3 := Tryz.isAgg3
  z3 := Tryz.sizeOf3
  v3 := Tryz.zeroValue3
  t4 := Tryz.underlying4
  a4 := Tryz.isAgg4
  z4 := Tryz.sizeOf4
  v4 := Tryz.zeroValue4
  t9 := Tryz.underlying9
  a9 := Tryz.isAgg9
  z9 := Tryz.sizeOf9
  v9 := Tryz.zeroValue9
  t37 := Tryz.underlying268
  a37 := Tryz.isAgg268
  z37 := Tryz.sizeOf268
  v37 := Tryz.zeroValue268
  t127 := Tryz.underlying321
  a127 := Tryz.isAgg321
  z127 := Tryz.sizeOf321
  v127 := Tryz.zeroValue321
  t5 := Tryz.underlying5
  a5 := Tryz.isAgg5
  z5 := Tryz.sizeOf5
  v5 := Tryz.zeroValue5
  i0 := by kernel_rfl
  i3 := by kernel_rfl
  i4 := by kernel_rfl
  i5 := by kernel_rfl
  i9 := by kernel_rfl
  i37 := by kernel_rfl
  i127 := by kernel_rfl }
open Go.RowKit in
/-- internal/stringslite.Clone (what strings.Clone calls): "Clone returns a fresh copy of s.": THE SAME BYTES. Of what was there nothing has turned (a new row is laid, and frozen, where s is not empty). (LAID: no walk: one application.) -/
theorem Tryz.stringslite_Clone (s : ByteArray) (w : World) (hlim : s.size ≤ 281474976710656) :
    Calls Tryz.prog 130 #[.string s] w fun e w' => e = .returned (.string s) ∧ Below w.heap.size w w' := Any.stringslite_Clone Tryz.laysM316 s w hlim
def Tryz.laysC172_ren : Go.Shelf.Ren := ⟨fun | 172 => 307 | 244 => 349 | 245 => 121 | 247 => 363 | 279 => 214 | 280 => 215 | 281 => 216 | 282 => 217 | 287 => 120 | 316 => 130 | 171 => 160 | 205 => 292 | 321 => 212 | 322 => 213 | 243 => 241 | 246 => 314 | 283 => 277 | 284 => 278 | 285 => 279 | 286 => 280 | 129 => 253 | 317 => 330 | 318 => 331 | 319 => 332 | 320 => 333 | 337 => 357 | 338 => 358 | n => n, fun | 9 => 9 | 3 => 3 | 75 => 119 | 76 => 307 | 4 => 4 | 5 => 5 | 167 => 311 | 37 => 268 | 0 => 0 | 85 => 473 | 2 => 2 | 168 => 313 | 53 => 29 | 175 => 120 | 46 => 240 | 210 => 392 | 127 => 321 | 145 => 447 | 143 => 445 | 21 => 21 | 171 => 379 | 173 => 381 | 212 => 435 | 51 => 356 | 20 => 20 | 213 => 436 | 232 => 476 | 233 => 477 | 80 => 231 | n => n, fun | 15 => 1 | 16 => 2 | 17 => 4 | 18 => 5 | 19 => 6 | n => n⟩
theorem Tryz.laysC172 : Go.Proofs.LaysC.n172 Tryz.prog Tryz.laysC172_ren := {
  mixed := by kernel_rfl
  f129 := Tryz.func253.trans (congrArg some (by kernel_rfl))
  f171 := Tryz.func160.trans (congrArg some (by kernel_rfl))
  f172 := Tryz.func307.trans (congrArg some (by kernel_rfl))
  f205 := Tryz.func292.trans (congrArg some (by kernel_rfl))
  f243 := Tryz.func241.trans (congrArg some (by kernel_rfl))
  f244 := Tryz.func349.trans (congrArg some (by kernel_rfl))
  f245 := Tryz.func121.trans (congrArg some (by kernel_rfl))
  f246 := Tryz.func314.trans (congrArg some (by kernel_rfl))
  f247 := Tryz.func363.trans (congrArg some (by kernel_rfl))
  f279 := Tryz.func214.trans (congrArg some (by kernel_rfl))
  f280 := Tryz.func215.trans (congrArg some (by kernel_rfl))
  f281 := Tryz.func216.trans (congrArg some (by kernel_rfl))
  f282 := Tryz.func217.trans (congrArg some (by kernel_rfl))
  f283 := Tryz.func277.trans (congrArg some (by kernel_rfl))
  f284 := Tryz.func278.trans (congrArg some (by kernel_rfl))
  f285 := Tryz.func279.trans (congrArg some (by kernel_rfl))
  f286 := Tryz.func280.trans (congrArg some (by kernel_rfl))
  f287 := Tryz.func120.trans (congrArg some (by kernel_rfl))
  f316 := Tryz.func130.trans (congrArg some (by kernel_rfl))
  f317 := Tryz.func330.trans (congrArg some (by kernel_rfl))
  f318 := Tryz.func331.trans (congrArg some (by kernel_rfl))
  f319 := Tryz.func332.trans (congrArg some (by kernel_rfl))
  f320 := Tryz.func333.trans (congrArg some (by kernel_rfl))
  f321 := Tryz.func212.trans (congrArg some (by kernel_rfl))
  f322 := Tryz.func213.trans (congrArg some (by kernel_rfl))
  f337 := Tryz.func357.trans (congrArg some (by kernel_rfl))
  f338 := Tryz.func358.trans (congrArg some (by kernel_rfl))
  t0 := Tryz.underlying0
  a0 := Tryz.isAgg0
  z0 := Tryz.sizeOf0
  v0 := Tryz.zeroValue0
  t2 := Tryz.underlying2
  a2 := Tryz.isAgg2
  z2 := Tryz.sizeOf2
  v2 := Tryz.zeroValue2
  t3 := Tryz.underlying3
  a3 := Tryz.isAgg3
  z3 := Tryz.sizeOf3
  v3 := Tryz.zeroValue3
  t4 := Tryz.underlying4
  a4 := Tryz.isAgg4
  z4 := Tryz.sizeOf4
  v4 := Tryz.zeroValue4
  t5 := Tryz.underlying5
  a5 := Tryz.isAgg5
  z5 := Tryz.sizeOf5
  v5 := Tryz.zeroValue5
  t9 := Tryz.underlying9
  a9 := Tryz.isAgg9
  z9 := Tryz.sizeOf9
  v9 := Tryz.zeroValue9
  t20 := Tryz.underlying20
  a20 := Tryz.isAgg20
  z20 := Tryz.sizeOf20
  v20 := Tryz.zeroValue20
  t21 := Tryz.underlying21
  a21 := Tryz.isAgg21
  z21 := Tryz.sizeOf21
  v21 := Tryz.zeroValue21
  t37 := Tryz.underlying268
  a37 := Tryz.isAgg268
  z37 := Tryz.sizeOf268
  v37 := Tryz.zeroValue268
  t46 := Tryz.underlying240
  a46 := Tryz.isAgg240
  z46 := Tryz.sizeOf240
  v46 := Tryz.zeroValue240
  t51 := Tryz.underlying356
  a51 := Tryz.isAgg356
  z51 := Tryz.sizeOf356
  v51 := Tryz.zeroValue356
  t53 := Tryz.underlying29
  a53 := Tryz.isAgg29
  z53 := Tryz.sizeOf29
  v53 := Tryz.zeroValue29
  t75 := Tryz.underlying119
  a75 := Tryz.isAgg119
  z75 := Tryz.sizeOf119
  v75 := Tryz.zeroValue119
  t76 := Tryz.underlying307
  a76 := Tryz.isAgg307
  z76 := Tryz.sizeOf307
  v76 := Tryz.zeroValue307
  t85 := Tryz.underlying473
  a85 := Tryz.isAgg473
  z85 := Tryz.sizeOf473
  v85 := Tryz.zeroValue473
  t127 := Tryz.underlying321
  a127 := Tryz.isAgg321
  z127 := Tryz.sizeOf321
  v127 := Tryz.zeroValue321
  t143 := Tryz.underlying445
  a143 := Tryz.isAgg445
  z143 := Tryz.sizeOf445
  v143 := Tryz.zeroValue445
  t145 := Tryz.underlying447
  a145 := Tryz.isAgg447
  z145 := Tryz.sizeOf447
  v145 := Tryz.zeroValue447
  t167 := Tryz.underlying311
  a167 := Tryz.isAgg311
  z167 := Tryz.sizeOf311
  v167 := Tryz.zeroValue311
  t168 := Tryz.underlying313
  a168 := Tryz.isAgg313
  z168 := Tryz.sizeOf313
  v168 := Tryz.zeroValue313
  t171 := Tryz.underlying379
  a171 := Tryz.isAgg379
  z171 := Tryz.sizeOf379
  v171 := Tryz.zeroValue379
  t173 := Tryz.underlying381
  a173 := Tryz.isAgg381
  z173 := Tryz.sizeOf381
  v173 := Tryz.zeroValue381
  t175 := Tryz.underlying120
  a175 := Tryz.isAgg120
  z175 := Tryz.sizeOf120
  v175 := Tryz.zeroValue120
  t210 := Tryz.underlying392
  a210 := Tryz.isAgg392
  z210 := Tryz.sizeOf392
  v210 := Tryz.zeroValue392
  t212 := Tryz.underlying435
  a212 := Tryz.isAgg435
  z212 := Tryz.sizeOf435
  v212 := Tryz.zeroValue435
  t213 := Tryz.underlying436
  a213 := Tryz.isAgg436
  z213 := Tryz.sizeOf436
  t232 := Tryz.underlying476
  a232 := Tryz.isAgg476
  z232 := Tryz.sizeOf476
  v232 := Tryz.zeroValue476
  t233 := Tryz.underlying477
  a233 := Tryz.isAgg477
  z233 := Tryz.sizeOf477
  v233 := Tryz.zeroValue477
  g15 := by kernel_rfl
  g16 := by kernel_rfl
  g17 := by kernel_rfl
  g18 := by kernel_rfl
  g19 := by kernel_rfl
  t80 := Tryz.underlying231
  a80 := Tryz.isAgg231
  z80 := Tryz.sizeOf231
  v80 := Tryz.zeroValue231
  i0 := by kernel_rfl
  i2 := by kernel_rfl
  i3 := by kernel_rfl
  i4 := by kernel_rfl
  i5 := by kernel_rfl
  i9 := by kernel_rfl
  i20 := by kernel_rfl
  i21 := by kernel_rfl
  i37 := by kernel_rfl
  i46 := by kernel_rfl
  i51 := by kernel_rfl
  i53 := by kernel_rfl
  i75 := by kernel_rfl
  i76 := by kernel_rfl
  i80 := by kernel_rfl
  i85 := by kernel_rfl
  i127 := by kernel_rfl
  i143 := by kernel_rfl
  i145 := by kernel_rfl
  i167 := by kernel_rfl
  i168 := by kernel_rfl
  i171 := by kernel_rfl
  i173 := by kernel_rfl
  i175 := by kernel_rfl
  i210 := by kernel_rfl
  i212 := by kernel_rfl
  i232 := by kernel_rfl
  i233 := by kernel_rfl
  m15 := by kernel_rfl
  m16 := by kernel_rfl
  m17 := by kernel_rfl
  m18 := by kernel_rfl
  m19 := by kernel_rfl
  c0 := by kernel_rfl
  c2 := by kernel_rfl
  c3 := by kernel_rfl
  c4 := by kernel_rfl
  c5 := by kernel_rfl
  c9 := by kernel_rfl
  c20 := by kernel_rfl
  c21 := by kernel_rfl
  c37 := by kernel_rfl
  c46 := by kernel_rfl
  c51 := by kernel_rfl
  c53 := by kernel_rfl
  c75 := by kernel_rfl
  c76 := by kernel_rfl
  c80 := by kernel_rfl
  c85 := by kernel_rfl
  c127 := by kernel_rfl
  c143 := by kernel_rfl
  c145 := by kernel_rfl
  c167 := by kernel_rfl
  c168 := by kernel_rfl
  c171 := by kernel_rfl
  c173 := by kernel_rfl
  c175 := by kernel_rfl
  c210 := by kernel_rfl
  c212 := by kernel_rfl
  c213 := by kernel_rfl
  c232 := by kernel_rfl
  c233 := by kernel_rfl }
open Go.RowKit in
/-- strconv.Atoi, AT EVERY STRING THAT SPELLS AN int ('Lib.atoiAll .. = .ok v'; of whatever length: leading zeros count): v, AND NO ERROR. The world: as it was, or with the one new row that '[]byte(..)' lays. (LAID: no walk: one application.) -/
theorem Tryz.strconv_Atoi_ok (s : ByteArray) (hmax : s.size ≤ 9223372036854775806) (v : Int) (h : Lib.atoiAll s.data.toList = .ok v) (w : World) :
    Calls Tryz.prog 307 #[.string s] w fun e w' => e = .returned (.tuple #[.int .i64 v, .nilIface]) ∧ (w' = w ∨ ∃ t, w' = Lib.bytesWorld w 5 t) := Any.strconv_Atoi_ok Tryz.laysC172 s hmax v h w
open Go.RowKit in
/-- strconv.Atoi, AT EVERY STRING THAT IS NO DECIMAL NUMERAL ('.syntax'): 0, AND AN ERROR THAT IS NOT nil: a *NumError in a new block N: {Func: "Atoi", Num: s's bytes, Err: what the variable ErrSyntax holds}. Of what was there nothing has turned. (LAID: no walk: one application.) -/
theorem Tryz.strconv_Atoi_syntax (s : ByteArray) (hlim : s.size ≤ 281474976710656) (h : (∀ v, Lib.atoiAll s.data.toList ≠ .ok v) ∧ Lib.atoiAll s.data.toList ≠ .range) (ev : Value) (w : World) (hv : w.cell? ⟨1, 0, none⟩ = some ev) (hev : ev = .nilIface ∨ ∃ te pe, ev = .iface te pe) :
    Calls Tryz.prog 307 #[.string s] w fun e w' => ∃ N, e = .returned (.tuple #[.int .i64 (0), .iface 313 (.pointer (some ⟨N, 0, none⟩))]) ∧ w.heap.size ≤ N ∧ w'.heap[N]? = some (.cells #[.string ⟨#[65, 116, 111, 105]⟩, .string s, ev] 392 (0, 0)) ∧ Below w.heap.size w w' := Any.strconv_Atoi_syntax Tryz.laysC172 s hlim (by cases hr : Lib.atoiAll s.data.toList with | ok v => exact absurd hr (h.1 v) | range => exact absurd hr h.2 | _ => rfl) ev w hv hev
def Tryz.laysPu14_ren : Go.Shelf.Ren := ⟨fun | 14 => 47 | 16 => 120 | 17 => 121 | 19 => 212 | 20 => 213 | 21 => 214 | 22 => 215 | 23 => 216 | 24 => 217 | 25 => 130 | 27 => 160 | 26 => 292 | 28 => 241 | 29 => 314 | 30 => 277 | 31 => 278 | 32 => 279 | 33 => 280 | 35 => 253 | 34 => 330 | 36 => 331 | 37 => 332 | 38 => 333 | 39 => 357 | 40 => 358 | n => n, fun | 9 => 9 | 3 => 3 | 22 => 29 | 24 => 119 | 25 => 120 | 4 => 4 | 34 => 311 | 5 => 5 | 36 => 240 | 37 => 268 | 0 => 0 | 39 => 313 | 21 => 21 | 44 => 392 | 47 => 321 | 50 => 447 | 48 => 445 | 2 => 2 | 52 => 379 | 55 => 381 | 59 => 435 | 60 => 356 | 20 => 20 | 61 => 436 | 65 => 476 | 66 => 477 | 67 => 231 | n => n, fun | 0 => 1 | 1 => 2 | 2 => 4 | 3 => 5 | 4 => 6 | n => n⟩
theorem Tryz.laysPu14 : Go.Proofs.LaysPu.n14 Tryz.prog Tryz.laysPu14_ren := {
  mixed := by kernel_rfl
  f14 := Tryz.func47.trans (congrArg some (by kernel_rfl))
  f16 := Tryz.func120.trans (congrArg some (by kernel_rfl))
  f17 := Tryz.func121.trans (congrArg some (by kernel_rfl))
  f19 := Tryz.func212.trans (congrArg some (by kernel_rfl))
  f20 := Tryz.func213.trans (congrArg some (by kernel_rfl))
  f21 := Tryz.func214.trans (congrArg some (by kernel_rfl))
  f22 := Tryz.func215.trans (congrArg some (by kernel_rfl))
  f23 := Tryz.func216.trans (congrArg some (by kernel_rfl))
  f24 := Tryz.func217.trans (congrArg some (by kernel_rfl))
  f25 := Tryz.func130.trans (congrArg some (by kernel_rfl))
  f26 := Tryz.func292.trans (congrArg some (by kernel_rfl))
  f27 := Tryz.func160.trans (congrArg some (by kernel_rfl))
  f28 := Tryz.func241.trans (congrArg some (by kernel_rfl))
  f29 := Tryz.func314.trans (congrArg some (by kernel_rfl))
  f30 := Tryz.func277.trans (congrArg some (by kernel_rfl))
  f31 := Tryz.func278.trans (congrArg some (by kernel_rfl))
  f32 := Tryz.func279.trans (congrArg some (by kernel_rfl))
  f33 := Tryz.func280.trans (congrArg some (by kernel_rfl))
  f34 := Tryz.func330.trans (congrArg some (by kernel_rfl))
  f35 := Tryz.func253.trans (congrArg some (by kernel_rfl))
  f36 := Tryz.func331.trans (congrArg some (by kernel_rfl))
  f37 := Tryz.func332.trans (congrArg some (by kernel_rfl))
  f38 := Tryz.func333.trans (congrArg some (by kernel_rfl))
  f39 := Tryz.func357.trans (congrArg some (by kernel_rfl))
  f40 := Tryz.func358.trans (congrArg some (by kernel_rfl))
  t0 := Tryz.underlying0
  a0 := Tryz.isAgg0
  z0 := Tryz.sizeOf0
  v0 := Tryz.zeroValue0
  i0 := by kernel_rfl
  t2 := Tryz.underlying2
  a2 := Tryz.isAgg2
  z2 := Tryz.sizeOf2
  v2 := Tryz.zeroValue2
  i2 := by kernel_rfl
  t3 := Tryz.underlying3
  a3 := Tryz.isAgg3
  z3 := Tryz.sizeOf3
  v3 := Tryz.zeroValue3
  i3 := by kernel_rfl
  t4 := Tryz.underlying4
  a4 := Tryz.isAgg4
  z4 := Tryz.sizeOf4
  v4 := Tryz.zeroValue4
  i4 := by kernel_rfl
  t5 := Tryz.underlying5
  a5 := Tryz.isAgg5
  z5 := Tryz.sizeOf5
  v5 := Tryz.zeroValue5
  i5 := by kernel_rfl
  t9 := Tryz.underlying9
  a9 := Tryz.isAgg9
  z9 := Tryz.sizeOf9
  v9 := Tryz.zeroValue9
  i9 := by kernel_rfl
  t20 := Tryz.underlying20
  a20 := Tryz.isAgg20
  z20 := Tryz.sizeOf20
  v20 := Tryz.zeroValue20
  i20 := by kernel_rfl
  t21 := Tryz.underlying21
  a21 := Tryz.isAgg21
  z21 := Tryz.sizeOf21
  v21 := Tryz.zeroValue21
  i21 := by kernel_rfl
  t22 := Tryz.underlying29
  a22 := Tryz.isAgg29
  z22 := Tryz.sizeOf29
  v22 := Tryz.zeroValue29
  i22 := by kernel_rfl
  t24 := Tryz.underlying119
  a24 := Tryz.isAgg119
  z24 := Tryz.sizeOf119
  v24 := Tryz.zeroValue119
  i24 := by kernel_rfl
  t25 := Tryz.underlying120
  a25 := Tryz.isAgg120
  z25 := Tryz.sizeOf120
  v25 := Tryz.zeroValue120
  i25 := by kernel_rfl
  t34 := Tryz.underlying311
  a34 := Tryz.isAgg311
  z34 := Tryz.sizeOf311
  v34 := Tryz.zeroValue311
  i34 := by kernel_rfl
  c34 := by kernel_rfl
  t36 := Tryz.underlying240
  a36 := Tryz.isAgg240
  z36 := Tryz.sizeOf240
  v36 := Tryz.zeroValue240
  i36 := by kernel_rfl
  t37 := Tryz.underlying268
  a37 := Tryz.isAgg268
  z37 := Tryz.sizeOf268
  v37 := Tryz.zeroValue268
  i37 := by kernel_rfl
  t39 := Tryz.underlying313
  a39 := Tryz.isAgg313
  z39 := Tryz.sizeOf313
  v39 := Tryz.zeroValue313
  i39 := by kernel_rfl
  t44 := Tryz.underlying392
  a44 := Tryz.isAgg392
  z44 := Tryz.sizeOf392
  v44 := Tryz.zeroValue392
  i44 := by kernel_rfl
  t47 := Tryz.underlying321
  a47 := Tryz.isAgg321
  z47 := Tryz.sizeOf321
  v47 := Tryz.zeroValue321
  i47 := by kernel_rfl
  t48 := Tryz.underlying445
  a48 := Tryz.isAgg445
  z48 := Tryz.sizeOf445
  v48 := Tryz.zeroValue445
  i48 := by kernel_rfl
  t50 := Tryz.underlying447
  a50 := Tryz.isAgg447
  z50 := Tryz.sizeOf447
  v50 := Tryz.zeroValue447
  i50 := by kernel_rfl
  t52 := Tryz.underlying379
  a52 := Tryz.isAgg379
  z52 := Tryz.sizeOf379
  v52 := Tryz.zeroValue379
  i52 := by kernel_rfl
  t55 := Tryz.underlying381
  a55 := Tryz.isAgg381
  z55 := Tryz.sizeOf381
  v55 := Tryz.zeroValue381
  i55 := by kernel_rfl
  t59 := Tryz.underlying435
  a59 := Tryz.isAgg435
  z59 := Tryz.sizeOf435
  v59 := Tryz.zeroValue435
  i59 := by kernel_rfl
  t60 := Tryz.underlying356
  a60 := Tryz.isAgg356
  z60 := Tryz.sizeOf356
  v60 := Tryz.zeroValue356
  i60 := by kernel_rfl
  t61 := Tryz.underlying436
  a61 := Tryz.isAgg436
  z61 := Tryz.sizeOf436
  t65 := Tryz.underlying476
  a65 := Tryz.isAgg476
  z65 := Tryz.sizeOf476
  v65 := Tryz.zeroValue476
  i65 := by kernel_rfl
  t66 := Tryz.underlying477
  a66 := Tryz.isAgg477
  z66 := Tryz.sizeOf477
  v66 := Tryz.zeroValue477
  i66 := by kernel_rfl
  t67 := Tryz.underlying231
  a67 := Tryz.isAgg231
  z67 := Tryz.sizeOf231
  v67 := Tryz.zeroValue231
  i67 := by kernel_rfl
  g0 := by kernel_rfl
  m0 := by kernel_rfl
  g1 := by kernel_rfl
  m1 := by kernel_rfl
  g2 := by kernel_rfl
  m2 := by kernel_rfl
  g3 := by kernel_rfl
  m3 := by kernel_rfl
  g4 := by kernel_rfl
  m4 := by kernel_rfl }
open Go.RowKit in
/-- strconv.ParseUint(s, 10, 64), AT EVERY STRING THAT SPELLS A uint64 ('Lib.parseUintB 64 s.data.toList = .ok u'): u, AND NO ERROR. (LAID: no walk: one application.) -/
theorem Tryz.strconv_ParseUint_10_at64_ok (s : ByteArray) (hmax : s.size ≤ 9223372036854775806) (u : Nat) (h : Lib.parseUintB 64 s.data.toList = .ok u) (w : World) :
    Calls Tryz.prog 47 #[.string s, .int .i64 10, .int .i64 64] w fun e w' => e = .returned (.tuple #[.int .u64 u, .nilIface]) ∧ (w' = w ∨ w' = Lib.bytesWorld w 5 s) := Any.strconv_ParseUint_10_at64_ok Tryz.laysPu14 s hmax u h w
open Go.RowKit in
/-- strconv.ParseUint(s, 10, 64), AT EVERY STRING THAT IS NO ROW OF DECIMAL DIGITS (a sign is a fault): 0, AND AN ERROR THAT IS NOT nil: a *NumError in a new block N: {Func: "ParseUint", Num: s's bytes, Err: what the variable ErrSyntax holds}. Of what was there nothing has turned. (LAID: no walk: one application.) -/
theorem Tryz.strconv_ParseUint_10_at64_syntax (s : ByteArray) (hlim : s.size ≤ 281474976710656) (h : (∀ v, Lib.parseUintB 64 s.data.toList ≠ .ok v) ∧ Lib.parseUintB 64 s.data.toList ≠ .range) (ev : Value) (w : World) (hv : w.cell? ⟨1, 0, none⟩ = some ev) (hev : ev = .nilIface ∨ ∃ te pe, ev = .iface te pe) :
    Calls Tryz.prog 47 #[.string s, .int .i64 10, .int .i64 64] w fun e w' => ∃ N, e = .returned (.tuple #[.int .u64 0, .iface 313 (.pointer (some ⟨N, 0, none⟩))]) ∧ w.heap.size ≤ N ∧ w'.heap[N]? = some (.cells #[.string ⟨#[80, 97, 114, 115, 101, 85, 105, 110, 116]⟩, .string s, ev] 392 (0, 0)) ∧ Below w.heap.size w w' := Any.strconv_ParseUint_10_at64_syntax Tryz.laysPu14 s hlim (by cases hr : Lib.parseUintB 64 s.data.toList with | ok v => exact absurd hr (h.1 v) | range => exact absurd hr h.2 | _ => rfl) ev w hv hev
def Tryz.lays190_ren : Go.Shelf.Ren := ⟨fun | 190 => 209 | 125 => 163 | 258 => 287 | 128 => 252 | 129 => 253 | 302 => 336 | 303 => 337 | 304 => 338 | 305 => 339 | 306 => 340 | 307 => 341 | 308 => 342 | 309 => 343 | 310 => 344 | 333 => 359 | 329 => 316 | 330 => 317 | 334 => 360 | 335 => 361 | 336 => 362 | 344 => 366 | n => n, fun | 31 => 114 | 9 => 9 | 3 => 3 | 46 => 240 | 0 => 0 | 51 => 356 | 53 => 29 | 4 => 4 | 183 => 349 | 182 => 348 | 131 => 317 | 5 => 5 | 218 => 423 | 222 => 426 | 228 => 463 | 229 => 464 | n => n, fun | n => n⟩
theorem Tryz.lays190 : Go.Proofs.Lays.n190 Tryz.prog Tryz.lays190_ren := {
  mixed := by kernel_rfl
  f125 := Tryz.func163.trans (congrArg some (by kernel_rfl))
  f128 := Tryz.func252.trans (congrArg some (by kernel_rfl))
  f129 := Tryz.func253.trans (congrArg some (by kernel_rfl))
  f190 := Tryz.func209.trans (congrArg some (by kernel_rfl))
  f258 := Tryz.func287.trans (congrArg some (by kernel_rfl))
  f302 := Tryz.func336.trans (congrArg some (by kernel_rfl))
  f303 := Tryz.func337.trans (congrArg some (by kernel_rfl))
  f304 := Tryz.func338.trans (congrArg some (by kernel_rfl))
  f305 := Tryz.func339.trans (congrArg some (by kernel_rfl))
  f306 := Tryz.func340.trans (congrArg some (by kernel_rfl))
  f307 := Tryz.func341.trans (congrArg some (by kernel_rfl))
  f308 := Tryz.func342.trans (congrArg some (by kernel_rfl))
  f309 := Tryz.func343.trans (congrArg some (by kernel_rfl))
  f310 := Tryz.func344.trans (congrArg some (by kernel_rfl))
  f329 := Tryz.func316.trans (congrArg some (by kernel_rfl))
  f330 := Tryz.func317.trans (congrArg some (by kernel_rfl))
  f333 := Tryz.func359.trans (congrArg some (by kernel_rfl))
  f334 := Tryz.func360.trans (congrArg some (by kernel_rfl))
  f335 := Tryz.func361.trans (congrArg some (by kernel_rfl))
  f336 := Tryz.func362.trans (congrArg some (by kernel_rfl))
  f344 := Tryz.func366.trans (congrArg some (by kernel_rfl))
  t0 := Tryz.underlying0
  a0 := Tryz.isAgg0
  z0 := Tryz.sizeOf0
  v0 := Tryz.zeroValue0
  t3 := Tryz.underlying3
  a3 := Tryz.isAgg3
  z3 := Tryz.sizeOf3
  v3 := Tryz.zeroValue3
  t4 := Tryz.underlying4
  a4 := Tryz.isAgg4
  z4 := Tryz.sizeOf4
  v4 := Tryz.zeroValue4
  t5 := Tryz.underlying5
  a5 := Tryz.isAgg5
  z5 := Tryz.sizeOf5
  v5 := Tryz.zeroValue5
  t9 := Tryz.underlying9
  a9 := Tryz.isAgg9
  z9 := Tryz.sizeOf9
  v9 := Tryz.zeroValue9
  t31 := Tryz.underlying114
  a31 := Tryz.isAgg114
  z31 := Tryz.sizeOf114
  v31 := Tryz.zeroValue114
  t46 := Tryz.underlying240
  a46 := Tryz.isAgg240
  z46 := Tryz.sizeOf240
  v46 := Tryz.zeroValue240
  t51 := Tryz.underlying356
  a51 := Tryz.isAgg356
  z51 := Tryz.sizeOf356
  v51 := Tryz.zeroValue356
  t53 := Tryz.underlying29
  a53 := Tryz.isAgg29
  z53 := Tryz.sizeOf29
  v53 := Tryz.zeroValue29
  t131 := Tryz.underlying317
  a131 := Tryz.isAgg317
  z131 := Tryz.sizeOf317
  v131 := Tryz.zeroValue317
  t182 := Tryz.underlying348
  a182 := Tryz.isAgg348
  z182 := Tryz.sizeOf348
  v182 := Tryz.zeroValue348
  t183 := Tryz.underlying349
  a183 := Tryz.isAgg349
  z183 := Tryz.sizeOf349
  v183 := Tryz.zeroValue349
  t218 := Tryz.underlying423
  a218 := Tryz.isAgg423
  z218 := Tryz.sizeOf423
  v218 := Tryz.zeroValue423
  t222 := Tryz.underlying426
  a222 := Tryz.isAgg426
  z222 := Tryz.sizeOf426
  v222 := Tryz.zeroValue426
  t228 := Tryz.underlying463
  a228 := Tryz.isAgg463
  z228 := Tryz.sizeOf463
  v228 := Tryz.zeroValue463
  t229 := Tryz.underlying464
  a229 := Tryz.isAgg464
  z229 := Tryz.sizeOf464
  v229 := Tryz.zeroValue464 }
open Go.Sort Go.RowKit in
theorem Tryz.slices_Sort_string (blk off cap : Nat) (ss : List (List UInt8)) (w : World) (hH : Holds encStr w blk off ss.toArray) (hblk : blk < w.heap.size) (hsz : ss.length < 4611686018427387904) :
    Calls Tryz.prog 209 #[.slice (some ⟨blk, off, none⟩) ss.length cap] w fun e w' =>
      e = .returned (.tuple #[]) ∧ ∃ n os, w' = grow (putRow encStr (Sort.ahead w n) blk off (ss.mergeSort fun x y => decide (x ≤ y)).toArray) os := Any.slices_Sort_string Tryz.lays190 blk off cap ss w hH hblk hsz
def Tryz.lays105_ren : Go.Shelf.Ren := ⟨fun | 105 => 115 | 212 => 202 | 99 => 203 | 165 => 204 | 166 => 205 | 170 => 206 | 169 => 207 | 263 => 281 | 264 => 282 | 206 => 283 | 240 => 284 | 241 => 285 | 276 => 334 | 277 => 335 | n => n, fun | 9 => 9 | 3 => 3 | 4 => 4 | 20 => 20 | 0 => 0 | 46 => 240 | 109 => 300 | 5 => 5 | 72 => 305 | 76 => 307 | 51 => 356 | 146 => 383 | 53 => 29 | 148 => 385 | 70 => 303 | 37 => 268 | 75 => 119 | 127 => 321 | 164 => 408 | 80 => 231 | n => n, fun | n => n⟩
theorem Tryz.lays105 : Go.Proofs.Lays.n105 Tryz.prog Tryz.lays105_ren := {
  mixed := by kernel_rfl
  f99 := Tryz.func203.trans (congrArg some (by kernel_rfl))
  f105 := Tryz.func115.trans (congrArg some (by kernel_rfl))
  f165 := Tryz.func204.trans (congrArg some (by kernel_rfl))
  f166 := Tryz.func205.trans (congrArg some (by kernel_rfl))
  f169 := Tryz.func207.trans (congrArg some (by kernel_rfl))
  f170 := Tryz.func206.trans (congrArg some (by kernel_rfl))
  f206 := Tryz.func283.trans (congrArg some (by kernel_rfl))
  f212 := Tryz.func202.trans (congrArg some (by kernel_rfl))
  f240 := Tryz.func284.trans (congrArg some (by kernel_rfl))
  f241 := Tryz.func285.trans (congrArg some (by kernel_rfl))
  f263 := Tryz.func281.trans (congrArg some (by kernel_rfl))
  f264 := Tryz.func282.trans (congrArg some (by kernel_rfl))
  f276 := Tryz.func334.trans (congrArg some (by kernel_rfl))
  f277 := Tryz.func335.trans (congrArg some (by kernel_rfl))
  t0 := Tryz.underlying0
  a0 := Tryz.isAgg0
  z0 := Tryz.sizeOf0
  v0 := Tryz.zeroValue0
  t3 := Tryz.underlying3
  a3 := Tryz.isAgg3
  z3 := Tryz.sizeOf3
  v3 := Tryz.zeroValue3
  t4 := Tryz.underlying4
  a4 := Tryz.isAgg4
  z4 := Tryz.sizeOf4
  v4 := Tryz.zeroValue4
  t5 := Tryz.underlying5
  a5 := Tryz.isAgg5
  z5 := Tryz.sizeOf5
  v5 := Tryz.zeroValue5
  t9 := Tryz.underlying9
  a9 := Tryz.isAgg9
  z9 := Tryz.sizeOf9
  v9 := Tryz.zeroValue9
  t20 := Tryz.underlying20
  a20 := Tryz.isAgg20
  z20 := Tryz.sizeOf20
  v20 := Tryz.zeroValue20
  t37 := Tryz.underlying268
  a37 := Tryz.isAgg268
  z37 := Tryz.sizeOf268
  v37 := Tryz.zeroValue268
  t46 := Tryz.underlying240
  a46 := Tryz.isAgg240
  z46 := Tryz.sizeOf240
  v46 := Tryz.zeroValue240
  t51 := Tryz.underlying356
  a51 := Tryz.isAgg356
  z51 := Tryz.sizeOf356
  v51 := Tryz.zeroValue356
  t53 := Tryz.underlying29
  a53 := Tryz.isAgg29
  z53 := Tryz.sizeOf29
  v53 := Tryz.zeroValue29
  t70 := Tryz.underlying303
  a70 := Tryz.isAgg303
  z70 := Tryz.sizeOf303
  v70 := Tryz.zeroValue303
  t72 := Tryz.underlying305
  a72 := Tryz.isAgg305
  z72 := Tryz.sizeOf305
  v72 := Tryz.zeroValue305
  t75 := Tryz.underlying119
  a75 := Tryz.isAgg119
  z75 := Tryz.sizeOf119
  v75 := Tryz.zeroValue119
  t76 := Tryz.underlying307
  a76 := Tryz.isAgg307
  z76 := Tryz.sizeOf307
  v76 := Tryz.zeroValue307
  t109 := Tryz.underlying300
  a109 := Tryz.isAgg300
  z109 := Tryz.sizeOf300
  v109 := Tryz.zeroValue300
  t127 := Tryz.underlying321
  a127 := Tryz.isAgg321
  z127 := Tryz.sizeOf321
  v127 := Tryz.zeroValue321
  t146 := Tryz.underlying383
  a146 := Tryz.isAgg383
  z146 := Tryz.sizeOf383
  v146 := Tryz.zeroValue383
  t148 := Tryz.underlying385
  a148 := Tryz.isAgg385
  z148 := Tryz.sizeOf385
  v148 := Tryz.zeroValue385
  t164 := Tryz.underlying408
  a164 := Tryz.isAgg408
  z164 := Tryz.sizeOf408
  v164 := Tryz.zeroValue408 }
theorem Tryz.Builder_Extra_105 : Builder.Extra Tryz.prog Tryz.lays105_ren := {
  sizeBuilder := by kernel_rfl
  liesBuilder := by kernel_rfl
  t5 := Tryz.underlying5
  a5 := Tryz.isAgg5
  z5 := Tryz.sizeOf5
  v5 := Tryz.zeroValue5
  infoByte := by kernel_rfl
  cellsByte := by kernel_rfl
  sizeByte := by kernel_rfl
  neB5 := by decide }
open Go.RowKit Go.Lib in
/-- **strings.Repeat: count ≥ 0, the result within one allocation: count copies of s.** (LAID: no walk: one application.) -/
theorem Tryz.strings_Repeat (s : ByteArray) (c : Nat) (w : World) (hc : c ≤ 9223372036854775807) (hlen : s.size * c ≤ 140737488355328) :
    Calls Tryz.prog 115 #[.string s, .int .i64 c] w fun e w' => e = .returned (.string ⟨(Lib.repeatL s.data.toList c).toArray⟩) ∧ Below w.heap.size w w' := Any.strings_Repeat Tryz.lays105 Tryz.Builder_Extra_105 s c w hc hlen
open Go.RowKit Go.Sort in
/-- .. and plain. (LAID: no walk: one application.) -/
theorem Tryz.slices_Sort_string_none (p : Option Addr) (cap : Nat) (w : World) :
    Calls Tryz.prog 209 #[.slice p 0 cap] w fun e w' => e = .returned (.tuple #[]) ∧ w' = w := Any.slices_Sort_string_none Tryz.lays190 p cap w
def Tryz.keys118_ren : Go.Shelf.Ren := ⟨fun | 7 => 118 | 10 => 210 | n => n, fun | 23 => 219 | 26 => 9 | 3 => 220 | 28 => 217 | 0 => 0 | 27 => 216 | 33 => 274 | 4 => 4 | n => n, fun | n => n⟩
theorem Tryz.keys118 : Go.Proofs.SlLaysZ.n7 Tryz.prog Tryz.keys118_ren := {
  mixed := by kernel_rfl
  f7 := ⟨Tryz.f118.name, by decide, Tryz.func118.trans (congrArg some (by kernel_rfl))⟩
  f10 := ⟨Tryz.f210.name, by decide, Tryz.func210.trans (congrArg some (by kernel_rfl))⟩
  t0 := Tryz.underlying0
  a0 := Tryz.isAgg0
  z0 := Tryz.sizeOf0
  v0 := Tryz.zeroValue0
  t4 := Tryz.underlying4
  a4 := Tryz.isAgg4
  z4 := Tryz.sizeOf4
  v4 := Tryz.zeroValue4
  t23 := Tryz.underlying219
  a23 := Tryz.isAgg219
  z23 := Tryz.sizeOf219
  v23 := Tryz.zeroValue219
  t26 := Tryz.underlying9
  a26 := Tryz.isAgg9
  z26 := Tryz.sizeOf9
  v26 := Tryz.zeroValue9
  t27 := Tryz.underlying216
  a27 := Tryz.isAgg216
  z27 := Tryz.sizeOf216
  v27 := Tryz.zeroValue216
  t28 := Tryz.underlying217
  a28 := Tryz.isAgg217
  z28 := Tryz.sizeOf217
  v28 := Tryz.zeroValue217
  t33 := Tryz.underlying274
  a33 := Tryz.isAgg274
  z33 := Tryz.sizeOf274
  v33 := Tryz.zeroValue274 }
def Tryz.sorted117_ren : Go.Shelf.Ren := ⟨fun | 6 => 117 | 8 => 208 | 9 => 209 | 11 => 286 | 13 => 163 | 12 => 287 | 23 => 252 | 24 => 253 | 14 => 336 | 15 => 337 | 16 => 338 | 17 => 339 | 18 => 340 | 19 => 341 | 20 => 342 | 21 => 343 | 22 => 344 | 25 => 359 | 26 => 316 | 27 => 317 | 28 => 360 | 29 => 361 | 30 => 362 | 31 => 366 | n => n, fun | 26 => 9 | 28 => 217 | 24 => 114 | 0 => 0 | 3 => 3 | 37 => 240 | 48 => 356 | 50 => 29 | 4 => 4 | 40 => 349 | 39 => 348 | 45 => 317 | 5 => 5 | 9 => 9 | 51 => 423 | 55 => 426 | 57 => 463 | 58 => 464 | 33 => 274 | n => n, fun | n => n⟩
theorem Tryz.sorted117 : Go.Proofs.SlLaysZ.n6 Tryz.prog Tryz.sorted117_ren := {
  mixed := by kernel_rfl
  f6 := ⟨Tryz.f117.name, by decide, Tryz.func117.trans (congrArg some (by kernel_rfl))⟩
  f8 := ⟨Tryz.f208.name, by decide, Tryz.func208.trans (congrArg some (by kernel_rfl))⟩
  f11 := ⟨Tryz.f286.name, by decide, Tryz.func286.trans (congrArg some (by kernel_rfl))⟩
  t0 := Tryz.underlying0
  a0 := Tryz.isAgg0
  z0 := Tryz.sizeOf0
  v0 := Tryz.zeroValue0
  t24 := Tryz.underlying114
  a24 := Tryz.isAgg114
  z24 := Tryz.sizeOf114
  v24 := Tryz.zeroValue114
  t26 := Tryz.underlying9
  a26 := Tryz.isAgg9
  z26 := Tryz.sizeOf9
  v26 := Tryz.zeroValue9
  t28 := Tryz.underlying217
  a28 := Tryz.isAgg217
  z28 := Tryz.sizeOf217
  v28 := Tryz.zeroValue217
  i26 := by kernel_rfl }
def Tryz.sort209_ren : Go.Shelf.Ren := ⟨fun | 6 => 209 | 8 => 163 | 9 => 287 | 19 => 252 | 20 => 253 | 21 => 336 | 22 => 337 | 23 => 338 | 24 => 339 | 25 => 340 | 26 => 341 | 27 => 342 | 28 => 343 | 29 => 344 | 36 => 359 | 31 => 316 | 32 => 317 | 37 => 360 | 38 => 361 | 39 => 362 | 41 => 366 | n => n, fun | 27 => 114 | 29 => 9 | 3 => 3 | 32 => 240 | 26 => 114 | 0 => 0 | 44 => 356 | 46 => 29 | 4 => 4 | 36 => 349 | 35 => 348 | 41 => 317 | 5 => 5 | 9 => 9 | 53 => 423 | 57 => 426 | 63 => 463 | 64 => 464 | n => n, fun | n => n⟩
theorem Tryz.sort209 : Go.Proofs.SlLaysM.n6 Tryz.prog Tryz.sort209_ren := {
  mixed := by kernel_rfl
  f6 := ⟨Tryz.f209.name, by decide, Tryz.func209.trans (congrArg some (by kernel_rfl))⟩
  f8 := Tryz.func163.trans (congrArg some (by kernel_rfl))
  f9 := ⟨Tryz.f287.name, by decide, Tryz.func287.trans (congrArg some (by kernel_rfl))⟩
  f19 := Tryz.func252.trans (congrArg some (by kernel_rfl))
  f20 := Tryz.func253.trans (congrArg some (by kernel_rfl))
  f21 := ⟨Tryz.f336.name, by decide, Tryz.func336.trans (congrArg some (by kernel_rfl))⟩
  f22 := ⟨Tryz.f337.name, by decide, Tryz.func337.trans (congrArg some (by kernel_rfl))⟩
  f23 := ⟨Tryz.f338.name, by decide, Tryz.func338.trans (congrArg some (by kernel_rfl))⟩
  f24 := ⟨Tryz.f339.name, by decide, Tryz.func339.trans (congrArg some (by kernel_rfl))⟩
  f25 := ⟨Tryz.f340.name, by decide, Tryz.func340.trans (congrArg some (by kernel_rfl))⟩
  f26 := ⟨Tryz.f341.name, by decide, Tryz.func341.trans (congrArg some (by kernel_rfl))⟩
  f27 := ⟨Tryz.f342.name, by decide, Tryz.func342.trans (congrArg some (by kernel_rfl))⟩
  f28 := ⟨Tryz.f343.name, by decide, Tryz.func343.trans (congrArg some (by kernel_rfl))⟩
  f29 := ⟨Tryz.f344.name, by decide, Tryz.func344.trans (congrArg some (by kernel_rfl))⟩
  f31 := Tryz.func316.trans (congrArg some (by kernel_rfl))
  f32 := Tryz.func317.trans (congrArg some (by kernel_rfl))
  f36 := ⟨Tryz.f359.name, by decide, Tryz.func359.trans (congrArg some (by kernel_rfl))⟩
  f37 := ⟨Tryz.f360.name, by decide, Tryz.func360.trans (congrArg some (by kernel_rfl))⟩
  f38 := ⟨Tryz.f361.name, by decide, Tryz.func361.trans (congrArg some (by kernel_rfl))⟩
  f39 := ⟨Tryz.f362.name, by decide, Tryz.func362.trans (congrArg some (by kernel_rfl))⟩
  f41 := ⟨Tryz.f366.name, by decide, Tryz.func366.trans (congrArg some (by kernel_rfl))⟩
  t0 := Tryz.underlying0
  a0 := Tryz.isAgg0
  z0 := Tryz.sizeOf0
  v0 := Tryz.zeroValue0
  t3 := Tryz.underlying3
  a3 := Tryz.isAgg3
  z3 := Tryz.sizeOf3
  v3 := Tryz.zeroValue3
  t4 := Tryz.underlying4
  a4 := Tryz.isAgg4
  z4 := Tryz.sizeOf4
  v4 := Tryz.zeroValue4
  t5 := Tryz.underlying5
  a5 := Tryz.isAgg5
  z5 := Tryz.sizeOf5
  v5 := Tryz.zeroValue5
  t9 := Tryz.underlying9
  a9 := Tryz.isAgg9
  z9 := Tryz.sizeOf9
  v9 := Tryz.zeroValue9
  t26 := Tryz.underlying114
  a26 := Tryz.isAgg114
  z26 := Tryz.sizeOf114
  v26 := Tryz.zeroValue114
  t27 := Tryz.underlying114
  a27 := Tryz.isAgg114
  z27 := Tryz.sizeOf114
  v27 := Tryz.zeroValue114
  t29 := Tryz.underlying9
  a29 := Tryz.isAgg9
  z29 := Tryz.sizeOf9
  v29 := Tryz.zeroValue9
  t32 := Tryz.underlying240
  a32 := Tryz.isAgg240
  z32 := Tryz.sizeOf240
  v32 := Tryz.zeroValue240
  t35 := Tryz.underlying348
  a35 := Tryz.isAgg348
  z35 := Tryz.sizeOf348
  v35 := Tryz.zeroValue348
  t36 := Tryz.underlying349
  a36 := Tryz.isAgg349
  z36 := Tryz.sizeOf349
  v36 := Tryz.zeroValue349
  t41 := Tryz.underlying317
  a41 := Tryz.isAgg317
  z41 := Tryz.sizeOf317
  v41 := Tryz.zeroValue317
  t44 := Tryz.underlying356
  a44 := Tryz.isAgg356
  z44 := Tryz.sizeOf356
  v44 := Tryz.zeroValue356
  t46 := Tryz.underlying29
  a46 := Tryz.isAgg29
  z46 := Tryz.sizeOf29
  v46 := Tryz.zeroValue29
  t53 := Tryz.underlying423
  a53 := Tryz.isAgg423
  z53 := Tryz.sizeOf423
  v53 := Tryz.zeroValue423
  t57 := Tryz.underlying426
  a57 := Tryz.isAgg426
  z57 := Tryz.sizeOf426
  v57 := Tryz.zeroValue426
  t63 := Tryz.underlying463
  a63 := Tryz.isAgg463
  z63 := Tryz.sizeOf463
  v63 := Tryz.zeroValue463
  t64 := Tryz.underlying464
  a64 := Tryz.isAgg464
  z64 := Tryz.sizeOf464
  v64 := Tryz.zeroValue464 }
def Tryz.clone183_ren : Go.Shelf.Ren := ⟨fun | 5 => 183 | 7 => 261 | n => n, fun | 23 => 219 | 25 => 9 | 3 => 220 | 4 => 4 | 20 => 20 | n => n, fun | n => n⟩
theorem Tryz.clone183 : Go.Proofs.SlLaysW.n5 Tryz.prog Tryz.clone183_ren := {
  mixed := by kernel_rfl
  f5 := ⟨Tryz.f183.name, by decide, Tryz.func183.trans (congrArg some (by kernel_rfl))⟩
  f7 := Tryz.func261.trans (congrArg some (by kernel_rfl))
  t4 := Tryz.underlying4
  a4 := Tryz.isAgg4
  z4 := Tryz.sizeOf4
  v4 := Tryz.zeroValue4
  t20 := Tryz.underlying20
  a20 := Tryz.isAgg20
  z20 := Tryz.sizeOf20
  v20 := Tryz.zeroValue20
  t23 := Tryz.underlying219
  a23 := Tryz.isAgg219
  z23 := Tryz.sizeOf219
  v23 := Tryz.zeroValue219 }
end Go.Proofs

/- The library's functions, and the disk's sum, by heart. -/
namespace Go.Proofs.YtomheegfobcijaaGreatDoor.Am
open Go.RowKit Go.Maps Go.Sort Go.Shelf
set_option linter.unusedVariables false
set_option linter.unusedSimpArgs false

/-! ### how many bytes all files have -/
def fileA (H : List (Option Blk)) : AV → Option Nat
  | .ptr id 0 => match getBlk H id with
    | some ⟨_, .str s :: _⟩ => some s.length
    | _ => none
  | _ => none
def sumA (H : List (Option Blk)) : List (AV × AV) → Option Nat
  | [] => some 0
  | p :: l => match fileA H p.2, sumA H l with
    | some a, some b => some (a + b)
    | _, _ => none
def usedF : HF := fun H args => match args with
  | [.ptr id 0] => match getBlk H id with
    | some ⟨e, [_, _, _, .bool false, .map m, _, _]⟩ => cond (Nat.beq e 223) (match getMap H m with
      | some l => match sumA H l with
        | some n => cond (Nat.ble n 4611686018427387904) (some (.int .i64 n)) none
        | none => none
      | none => none) none
    | _ => none
  | _ => none
theorem fileA_fill {H : List (Option Blk)} {x : AV} {n p : Nat} {k : Blk} (h : fileA H x = some n) (hp : H[p]? = some none) : fileA (H.set p (some k)) x = some n := by
  unfold fileA at h ⊢
  split at h
  · split at h
    · rename_i hb; rw [getBlk_fill hb hp]; exact h
    · cases h
  · cases h
theorem sumA_fill {H : List (Option Blk)} {p : Nat} {k : Blk} (hp : H[p]? = some none) : ∀ {l : List (AV × AV)} {n : Nat}, sumA H l = some n → sumA (H.set p (some k)) l = some n
  | [], n, h => h
  | q :: l, n, h => by
    unfold sumA at h ⊢
    split at h
    · rename_i a b h1 h2
      rw [fileA_fill h1 hp, sumA_fill hp h2]; exact h
    · cases h
theorem used_fills : Fills usedF := by
  intro H args x p k h hp
  unfold usedF at h ⊢
  split at h
  case h_2 => cases h
  split at h
  case h_2 => cases h
  rename_i hb
  rw [getBlk_fill hb hp]
  simp only
  rename_i e _ _ _ m _ _
  cases he : Nat.beq e 223 with
  | false => rw [he] at h; cases h
  | true =>
    rw [he, cond_true] at h
    rw [cond_true]
    split at h
    case h_2 => cases h
    rename_i l hl
    rw [getMap_fill hl hp]
    simp only
    split at h
    case h_2 => cases h
    rename_i n hn
    rw [sumA_fill hp hn]
    exact h
section
variable {P : Program}
theorem ptr_inv {M : Mem} {id off : Nat} {v : Value} (h : Rep P M (.ptr id off) v) : ∃ b, M.f id = some b ∧ v = .pointer (some ⟨b, off, none⟩) := by
  cases h with | ptr _ _ b hf => exact ⟨b, hf, rfl⟩
theorem map_inv {M : Mem} {id : Nat} {v : Value} (h : Rep P M (.map id) v) : ∃ b, M.f id = some b ∧ v = .map (some b) := by
  cases h with | map _ b hf => exact ⟨b, hf, rfl⟩
theorem file_len {G : Gh} {H : List (Option Blk)} {w : World} (hH : HeapRel P G H w) {x : AV} {v : Value} {n : Nat} (h : fileA H x = some n) (r : Rep P (G.mem w) x v) : (∃ a s, v = .pointer (some ⟨a, 0, none⟩) ∧ w.cell? ⟨a, 0, none⟩ = some (.string s)) ∧ fileLen w v = n := by
  unfold fileA at h
  split at h
  case h_2 => cases h
  rename_i id
  split at h
  case h_2 => cases h
  rename_i e s r' hb
  injection h with h
  subst h
  obtain ⟨b, hf, rfl⟩ := ptr_inv r
  obtain ⟨cs, h1, h2, h3⟩ := blk_of hH hf hb
  have hs := str_inv (h3 0 (by simp))
  have hc := h2 0 (by simp)
  rw [hs] at hc
  refine ⟨⟨b, _, rfl, hc⟩, ?_⟩
  unfold fileLen
  simp only [hc]
  rfl
theorem sum_len {G : Gh} {H : List (Option Blk)} {w : World} (hH : HeapRel P G H w) : ∀ (l : List (AV × AV)) (es : List MapEntry) (n : Nat), sumA H l = some n → es.length = l.length → (∀ j, j < l.length → ∀ p e, l[j]? = some p → es[j]? = some e → Rep P (G.mem w) p.1 e.key ∧ Rep P (G.mem w) p.2 e.val) →
    (∀ x ∈ es, ∃ a s, x.val = .pointer (some ⟨a, 0, none⟩) ∧ w.cell? ⟨a, 0, none⟩ = some (.string s)) ∧ (es.map fun e => fileLen w e.val).sum = n
  | [], es, n, h, hl, _ => by
    obtain rfl := List.eq_nil_of_length_eq_zero hl
    injection h with h
    subst h
    exact ⟨fun x hx => (by cases hx), rfl⟩
  | p :: l, [], n, h, hl, _ => by cases hl
  | p :: l, e :: es, n, h, hl, hr => by
    unfold sumA at h
    split at h
    case h_2 => cases h
    rename_i a b h1 h2
    injection h with h
    subst h
    obtain ⟨q1, q2⟩ := file_len hH h1 (hr 0 (by simp) p e rfl rfl).2
    obtain ⟨q3, q4⟩ := sum_len hH l es b h2 (by simpa using hl) fun j hj p' e' hp he => hr (j + 1) (by simpa using hj) p' e' (by simpa using hp) (by simpa using he)
    refine ⟨fun x hx => ?_, ?_⟩
    · rcases List.mem_cons.1 hx with rfl | hx
      · exact q1
      · exact q3 x hx
    · rw [List.map_cons, List.sum_cons, q2, q4]; omega
end
theorem used_at : ReadsAt Tryz.prog 175 usedF := by
  intro H args x h G w vals g hH ha
  unfold usedF at h
  split at h
  case h_2 => cases h
  rename_i id
  split at h
  case h_2 => cases h
  rename_i e x0 x1 x2 m x5 x6 hb
  cases he : Nat.beq e 223 with
  | false => rw [he] at h; cases h
  | true =>
  rw [he, cond_true] at h
  have he := Nat.eq_of_beq_eq_true he
  subst he
  split at h
  case h_2 => cases h
  rename_i l hl
  split at h
  case h_2 => cases h
  rename_i n hn
  cases hle : Nat.ble n 4611686018427387904 with
  | false => rw [hle] at h; cases h
  | true =>
  rw [hle, cond_true] at h
  injection h with h
  subst h
  have hle := Nat.ble_eq.mp hle
  obtain ⟨v, rfl, hv⟩ := args_one' ha
  obtain ⟨b, hf, rfl⟩ := ptr_inv hv
  obtain ⟨cs, h1, h2, h3⟩ := blk_of hH hf hb
  have c3 := h2 3 (by simp)
  rw [bool_inv (h3 3 (by simp))] at c3
  obtain ⟨r, hfm, em⟩ := map_inv (h3 4 (by simp))
  have c4 := h2 4 (by simp)
  rw [em] at c4
  obtain ⟨es, cl, hm, e1, e2, hst⟩ := map_at hH (getMap_R hl) hfm
  obtain ⟨s1, s2⟩ := sum_len hH l es.toList n hn e1 e2
  refine (used_walk w b r cs _ es cl h1 c3 c4 hm hst s1 (by rw [s2]; omega)).mono ?_
  rintro e w' ⟨rfl, hB⟩
  rw [s2]
  exact ⟨_, rfl, hB, .inl (.int _ _)⟩
end Go.Proofs.YtomheegfobcijaaGreatDoor.Am

/- A map's keys, sorted; a map, cloned; numbers and texts: by heart. -/
namespace Go.Proofs.YtomheegfobcijaaGreatDoor.Am
open Go.RowKit Go.Maps Go.Sort Go.Shelf Go.WideShapes
set_option linter.unusedVariables false
set_option linter.unusedSimpArgs false

/-! ### the order of texts -/
def leL : Bytes → Bytes → Bool
  | [], _ => true
  | _ :: _, [] => false
  | a :: r, b :: q => cond (Nat.blt a.toNat b.toNat) true (cond (Nat.beq a.toNat b.toNat) (leL r q) false)
def insS (x : Bytes) : List Bytes → List Bytes
  | [] => [x]
  | y :: r => cond (leL x y) (x :: y :: r) (y :: insS x r)
def sortS : List Bytes → List Bytes
  | [] => []
  | x :: r => insS x (sortS r)
theorem leL_iff : ∀ (x y : Bytes), leL x y = true ↔ x ≤ y
  | [], y => by simp [leL]
  | a :: r, [] => by simp [leL]
  | a :: r, b :: q => by
    rw [List.cons_le_cons_iff, leL]
    cases h1 : Nat.blt a.toNat b.toNat with
    | true =>
      have := Nat.blt_eq.mp h1
      simp only [cond_true, true_iff]
      exact .inl (UInt8.lt_iff_toNat_lt.2 this)
    | false =>
      have h1' : ¬ a.toNat < b.toNat := fun h => by rw [Nat.blt_eq.mpr h] at h1; cases h1
      cases h2 : Nat.beq a.toNat b.toNat with
      | true =>
        have := Nat.eq_of_beq_eq_true h2
        have hab : a = b := UInt8.toNat_inj.1 this
        simp only [cond_false, cond_true]
        rw [leL_iff r q]
        constructor
        · intro h; exact .inr ⟨hab, h⟩
        · rintro (h | ⟨_, h⟩)
          · exact absurd (UInt8.lt_iff_toNat_lt.1 h) h1'
          · exact h
      | false =>
        simp only [cond_false, Bool.false_eq_true, false_iff]
        rintro (h | ⟨h, _⟩)
        · exact h1' (UInt8.lt_iff_toNat_lt.1 h)
        · subst h; rw [Nat.beq_refl] at h2; cases h2
theorem insS_perm (x : Bytes) : ∀ l : List Bytes, (insS x l).Perm (x :: l)
  | [] => List.Perm.refl _
  | y :: r => by
    unfold insS
    cases leL x y with
    | true => exact List.Perm.refl _
    | false => exact ((insS_perm x r).cons y).trans (List.Perm.swap x y r)
theorem sortS_perm : ∀ l : List Bytes, (sortS l).Perm l
  | [] => List.Perm.refl _
  | x :: r => (insS_perm x _).trans ((sortS_perm r).cons x)
theorem insS_sorted (x : Bytes) : ∀ l : List Bytes, l.Pairwise (· ≤ ·) → (insS x l).Pairwise (· ≤ ·)
  | [], _ => by simp [insS]
  | y :: r, h => by
    unfold insS
    cases hl : leL x y with
    | true =>
      have hxy := (leL_iff x y).1 hl
      refine List.pairwise_cons.2 ⟨fun z hz => ?_, h⟩
      rcases List.mem_cons.1 hz with rfl | hz
      · exact hxy
      · exact List.le_trans hxy ((List.pairwise_cons.1 h).1 z hz)
    | false =>
      have hyx : y ≤ x := by
        rcases List.le_total x y with h | h
        · rw [(leL_iff x y).2 h] at hl; cases hl
        · exact h
      obtain ⟨h1, h2⟩ := List.pairwise_cons.1 h
      refine List.pairwise_cons.2 ⟨fun z hz => ?_, insS_sorted x r h2⟩
      rcases List.mem_cons.1 ((insS_perm x r).mem_iff.1 hz) with rfl | hz
      · exact hyx
      · exact h1 z hz
theorem sortS_sorted : ∀ l : List Bytes, (sortS l).Pairwise (· ≤ ·)
  | [] => List.Pairwise.nil
  | x :: r => insS_sorted x _ (sortS_sorted r)
theorem sortS_eq {l l' : List Bytes} (h : l.Perm l') : l.mergeSort leB = sortS l' := by
  have tr : ∀ a b c : List UInt8, leB a b = true → leB b c = true → leB a c = true := fun a b c h1 h2 => by simp only [leB, decide_eq_true_eq] at *; exact List.le_trans h1 h2
  have tot : ∀ a b : List UInt8, (leB a b || leB b a) = true := fun a b => by simp only [leB, Bool.or_eq_true, decide_eq_true_eq]; exact List.le_total a b
  refine List.Perm.eq_of_pairwise (le := fun a b => a ≤ b) (fun a b _ _ h1 h2 => List.le_antisymm h1 h2) ((List.pairwise_mergeSort tr tot l).imp fun h => by simpa [leB] using h) (sortS_sorted l') (((List.mergeSort_perm l leB).trans h).trans (sortS_perm l').symm)

/-! ### slices.Sorted(maps.Keys(m)) -/
def keysA : List (AV × AV) → Option (List Bytes)
  | [] => some []
  | p :: l => match p.1, keysA l with
    | .str s, some r => cond (Nat.ble s.length 100000) (some (s :: r)) none
    | _, _ => none
def sortedV (e : TypeId) (ks : List Bytes) : AV :=
  match ks with
  | [] => .nils
  | _ :: _ => .lst e ((sortS ks).map .str) []
/-- Of a map in a box; gs: the functions that hand on its keys. -/
def sortedF (e : TypeId) (gs : List FuncId) : HF := fun H args => match args with
  | [.fn g [.ptr id 0]] => match getBlk H id with
    | some ⟨_, [.map m]⟩ => cond (gs.any fun q => Nat.beq q g) (match getMap H m with
      | some l => match keysA l with
        | some ks => cond (Nat.ble ks.length 100000) (some (sortedV e ks)) none
        | none => none
      | none => none) none
    | _ => none
  | _ => none
theorem sorted_fills {e : TypeId} {gs : List FuncId} : Fills (sortedF e gs) := by
  intro H args x p k h hp
  unfold sortedF at h ⊢
  split at h
  case h_2 => cases h
  rename_i g id
  split at h
  case h_2 => cases h
  rename_i e' m hb
  rw [getBlk_fill hb hp]
  simp only
  cases he : (gs.any fun q => Nat.beq q g) with
  | false => rw [he] at h; cases h
  | true =>
    rw [he, cond_true] at h
    rw [cond_true]
    split at h
    case h_2 => cases h
    rename_i l hl
    rw [getMap_fill hl hp]
    exact h
section
variable {P : Program}
def heldR (v : Value) : Option (DataW Value × List MemPlace) := some (.held v, [])
theorem keys_of {M : Mem} : ∀ (l : List (AV × AV)) (es : List MapEntry) (ks : List Bytes), keysA l = some ks → es.length = l.length → (∀ j, j < l.length → ∀ p e, l[j]? = some p → es[j]? = some e → Rep P M p.1 e.key ∧ Rep P M p.2 e.val) →
    es.map (·.key) = ks.map Proofs.encStr ∧ (∀ s ∈ ks, s.length ≤ 100000) ∧ ks.length = l.length
  | [], es, ks, h, hl, _ => by
    obtain rfl := List.eq_nil_of_length_eq_zero hl
    injection h with h
    subst h
    exact ⟨rfl, fun s hs => (by cases hs), rfl⟩
  | p :: l, [], ks, h, hl, _ => by cases hl
  | p :: l, e :: es, ks, h, hl, hr => by
    unfold keysA at h
    split at h
    case h_2 => cases h
    rename_i s r h1 h2
    cases hb : Nat.ble s.length 100000 with
    | false => rw [hb] at h; cases h
    | true =>
    rw [hb] at h
    injection h with h
    subst h
    obtain ⟨q1, q2, q3⟩ := keys_of l es r h2 (by simpa using hl) fun j hj p' e' hp he => hr (j + 1) (by simpa using hj) p' e' (by simpa using hp) (by simpa using he)
    have hk := (hr 0 (by simp) p e rfl rfl).1
    rw [h1] at hk
    refine ⟨?_, ?_, by simp [q3]⟩
    · rw [List.map_cons, List.map_cons, q1, str_inv hk]
    · intro x hx
      rcases List.mem_cons.1 hx with rfl | hx
      · exact Nat.ble_eq.mp hb
      · exact q2 x hx
theorem sorted_key {k : TypeId} (hk : P.underlying k = some .string) {s : Bytes} (h : s.length ≤ 100000) : keyOf P k (Proofs.encStr s) = some (.string s) := by
  unfold keyOf
  rw [hk]
  simp only [mapKey, hk, Proofs.encStr]
  have : (⟨s.toArray⟩ : ByteArray).size ≤ maxLen := by show s.toArray.size ≤ _; rw [List.size_toArray]; unfold maxLen; omega
  rw [if_pos this]
theorem strs_perm {es : List MapEntry} {ks : List Bytes} {k : TypeId} (hk : P.underlying k = some .string) (h : es.map (·.key) = ks.map Proofs.encStr) (hs : ∀ s ∈ ks, s.length ≤ 100000) :
    (strKeys (.map ((es.map (Go.WideElems.rg P k heldR)).foldr DataW.insert []))).Perm ks := by
  have h1 := (sorted_perm (es.map (Go.WideElems.rg P k heldR))).map fun p => strOf p.1
  refine h1.trans (List.Perm.of_eq ?_)
  induction es generalizing ks with
  | nil => cases ks with | nil => rfl | cons a r => cases h
  | cons e es ih =>
    cases ks with
    | nil => cases h
    | cons a r =>
      rw [List.map_cons, List.map_cons] at h
      injection h with h1 h2
      rw [List.map_cons, List.map_cons, ih h2 fun s hm => hs s (by simp [hm])]
      · congr 1
        unfold Go.WideElems.rg Go.WideElems.rd
        rw [h1, sorted_key hk (hs a (by simp))]
        rfl
      · exact (sorted_perm (es.map (Go.WideElems.rg P k heldR))).map fun p => strOf p.1
theorem rows_rep {G : Gh} {w w' : World} (g : GOk G w) (hb : Below w.heap.size w w') {e : TypeId} (hsz : sizeT P e = some 1) {v : Value} {ks : List Bytes} (h : w'.ownsRow w.heap.size e 1 v ks.length (ks.map Proofs.encStr)) (hn : ks ≠ []) :
    ∃ q n, w.heap.size ≤ q ∧ q < w'.heap.size ∧ Rep P ((G.list q n none).mem w') (.lst e (ks.map .str) []) v := by
  rcases h.2 with ⟨_, h0⟩ | ⟨q, cap, cur, rfl, hq, hh, hc, _, hcs, ht⟩
  · exact absurd (List.eq_nil_of_length_eq_zero h0) hn
  · have hr := list_rep_at (P := P) g hb hq hh (e := e) (xs := ks.map AV.str) (cap := cap) none hsz (by decide) (by intro x hx; obtain ⟨y, _, rfl⟩ := List.mem_map.1 hx; rfl) (by simpa using hc) (by
      intro j hj
      rw [flat_strs] at hj ⊢
      have hj : j < ks.length := by simpa using hj
      have hget : cur.toList[j]? = (ks.map Proofs.encStr)[j]? := by rw [← ht, List.getElem?_take_of_lt (by omega)]
      rw [List.getElem?_map, List.getElem?_eq_getElem hj] at hget
      have hcur : cur.getD j undef = Proofs.encStr ks[j] := by
        rw [Array.getD_eq_getD_getElem?]
        have : cur[j]? = some (Proofs.encStr ks[j]) := by simpa using hget
        rw [this]; rfl
      refine ⟨by omega, ?_, ?_⟩
      · rw [hcur]
        simp only [List.getD_eq_getElem?_getD, List.getElem?_map, List.getElem?_eq_getElem hj, Option.map_some, Option.getD_some]
        exact .str _
      · rw [hcur]; rfl)
    have el : (ks.map AV.str).length = ks.length := by simp
    rw [el] at hr
    exact ⟨q, _, hq, (Array.getElem?_eq_some_iff.1 hh).1, hr⟩
end
/-- What hands on a map's keys. -/
def KeysOk (P : Program) (k : TypeId) (g : FuncId) : Prop := ∀ (Bm b nn : Nat) (D0 : DataW Value) (w : World), Bm < w.heap.size → w.cell? ⟨Bm, 0, none⟩ = some (.map (some b)) → w.ownsMap P k heldR b nn D0 →
  SeqGives Fence.wide 2 P g #[.pointer (some ⟨Bm, 0, none⟩)] Proofs.encStr (fun ss => ss.Perm (strKeys D0)) (Maps.size D0) w
/-- What sorts that. -/
def SortedOk (P : Program) (f : FuncId) (k : TypeId) (gs : List FuncId) : Prop := ∀ g ∈ gs, ∀ (lb : Array Value) (S : List Bytes → Prop) (N : Nat), N ≤ maxLen → N * 16 ≤ 140737488355328 → ∀ w, SeqGives Fence.wide 2 P g lb Proofs.encStr S N w →
  Calls P f #[.func (.func g) #[] lb] w fun e w' => ∃ (v : Value) (ss : List Bytes), e = .returned v ∧ S ss ∧
      w'.ownsRow w.heap.size k 1 v ss.length ((ss.mergeSort (fun x y => decide (x ≤ y))).map Proofs.encStr) ∧ (v = .slice none 0 0 ↔ ss = []) ∧ Below w.heap.size w w'
theorem sorted_reads {P : Program} {f : FuncId} {k : TypeId} {gs : List FuncId} (hk : P.underlying k = some .string) (hsz : sizeT P k = some 1) (hg : ∀ g ∈ gs, KeysOk P k g) (hs : SortedOk P f k gs) : ReadsAt P f (sortedF k gs) := by
  intro H args x h G w vals g hH ha
  unfold sortedF at h
  split at h
  case h_2 => cases h
  rename_i gn id
  split at h
  case h_2 => cases h
  rename_i e m hb
  cases he : (gs.any fun q => Nat.beq q gn) with
  | false => rw [he] at h; cases h
  | true =>
  rw [he, cond_true] at h
  obtain ⟨q, hq, hqe⟩ := List.any_eq_true.1 he
  have hqe := Nat.eq_of_beq_eq_true hqe
  subst hqe
  split at h
  case h_2 => cases h
  rename_i l hl
  split at h
  case h_2 => cases h
  rename_i ks hks
  cases hle : Nat.ble ks.length 100000 with
  | false => rw [hle] at h; cases h
  | true =>
  rw [hle, cond_true] at h
  injection h with h
  subst h
  have hle := Nat.ble_eq.mp hle
  obtain ⟨v, rfl, hv⟩ := args_one' ha
  obtain ⟨c, rfl, hc⟩ : ∃ c, v = .func (.func q) #[] #[c] ∧ Rep P (G.mem w) (.ptr id 0) c := by
    cases hv with
    | fn _ _ vs hl h =>
      have e : vs.size = 1 := hl
      refine ⟨vs[0], ?_, by have := h 0 (by simp); simpa [Array.getD_eq_getD_getElem?, e] using this⟩
      congr 1
      apply Array.ext
      · simpa using e
      · intro i h3 h4
        have : i = 0 := by simp at h4; omega
        subst this; rfl
  obtain ⟨b, hf, rfl⟩ := ptr_inv hc
  obtain ⟨cs, h1, h2, h3⟩ := blk_of hH hf hb
  have c0 := h2 0 (by simp)
  obtain ⟨r, hfm, em⟩ := map_inv (h3 0 (by simp))
  rw [em] at c0
  obtain ⟨es, cl, hm, e1, e2, hst⟩ := map_at hH (getMap_R hl) hfm
  obtain ⟨k1, k2, k3⟩ := keys_of l es.toList ks hks e1 e2
  have hsize : es.size = ks.length := by rw [k3, ← e1, Array.length_toList]
  have hown : w.ownsMap P k heldR r es.size (.map ((es.toList.map (Go.WideElems.rg P k heldR)).foldr DataW.insert [])) := by
    refine ⟨es, cl, hm, ⟨by rw [hsize]; unfold maxLen; omega, hst, fun x hx => ?_⟩, Nat.le_refl _, rfl⟩
    have : x.key ∈ es.toList.map (·.key) := List.mem_map.2 ⟨x, hx, rfl⟩
    rw [k1] at this
    obtain ⟨s, hs1, hs2⟩ := List.mem_map.1 this
    exact ⟨(.string s, .held x.val), by unfold Go.WideElems.rd; rw [← hs2, sorted_key hk (k2 s hs1)]; rfl⟩
  have hlen : Maps.size (H := Value) (.map ((es.toList.map (Go.WideElems.rg P k heldR)).foldr DataW.insert [])) = ks.length := by
    simp [Maps.size, (sorted_perm _).length_eq, hsize]
  have hseq := hg q hq b r es.size _ w (World.block_lt_of_cell? w _ c0) c0 hown
  rw [hlen] at hseq
  refine (hs q hq _ _ _ (by unfold maxLen; omega) (by omega) w hseq).mono ?_
  rintro e w' ⟨v, ss, rfl, hperm, hrow, hnil, hB⟩
  have hp := hperm.trans (strs_perm hk k1 k2)
  have hsort : (ss.mergeSort fun x y => decide (x ≤ y)) = sortS ks := sortS_eq hp
  rw [hsort] at hrow
  refine ⟨v, rfl, hB, ?_⟩
  cases ks with
  | nil =>
    have : ss = [] := hp.eq_nil
    rw [hnil.2 this]
    exact .inl .nils
  | cons a rr =>
    refine .inr ?_
    have hl2 : ss.length = (sortS (a :: rr)).length := by rw [hp.length_eq, (sortS_perm _).length_eq]
    rw [hl2] at hrow
    exact rows_rep g hB hsz hrow (fun h0 => by have := (sortS_perm (a :: rr)).length_eq; rw [h0] at this; cases this)
end Go.Proofs.YtomheegfobcijaaGreatDoor.Am

/- A map, cloned: by heart. -/
namespace Go.Proofs.YtomheegfobcijaaGreatDoor.Am
open Go.RowKit
set_option linter.unusedVariables false
set_option linter.unusedSimpArgs false

def cloneF : ShortF := fun _ args H own => match args with
  | [.map id] => match getMap H id with
    | some l => some (.map H.length, H ++ [some (mapBlk l)], own)
    | none => none
  | [.nilm] => some (.nilm, H, own)
  | _ => none
/-- What a contract says of it. -/
def CloneOk (P : Program) (f : FuncId) : Prop := (∀ (b : Nat) (es : Array MapEntry) (clock : Nat) (w : World), w.heap[b]? = some (.map es clock) → Calls P f #[.map (some b)] w fun e w' => e = .returned (.map (some w.heap.size)) ∧ w' = w.alloc (.map es clock)) ∧
  ∀ w : World, Calls P f #[.map none] w fun e w' => e = .returned (.map none) ∧ w' = w
section
variable {P : Program} {w : World}
theorem clone_done {G : Gh} {H : List (Option Blk)} {own : List Loc} (g : GOk G w) (r : HeapRel P G H w) (ow : CellOwns P G H own w) {id b : Nat} {l : List (AV × AV)} {es : Array MapEntry} {cl : Nat} (hl : getMap H id = some l) (hf : G.f id = some b)
    (hm : w.heap[b]? = some (.map es cl)) (e1 : es.toList.length = l.length) (e2 : ∀ j, j < l.length → ∀ p e, l[j]? = some p → es.toList[j]? = some e → Rep P (G.mem w) p.1 e.key ∧ Rep P (G.mem w) p.2 e.val) (hst : MapKept.Stamped es cl) :
    CallDone P G w (.map H.length, H ++ [some (mapBlk l)], own) (.map (some w.heap.size)) (w.alloc (.map es cl)) (G.map H.length w.heap.size 0) := by
  have hid : G.f H.length = none := by
    cases hf : G.f H.length with
    | none => rfl
    | some b => have := (r.dom _ _ hf).lt; omega
  have gr := onew_grow g hid (.map es cl)
  have split_ : ∀ i b, (G.map H.length w.heap.size 0).f i = some b → (i = H.length ∧ b = w.heap.size) ∨ (i ≠ H.length ∧ G.f i = some b) := by
    intro i b h
    change upd G.f H.length (some w.heap.size) i = some b at h
    by_cases hi : i = H.length
    · subst hi; rw [upd_same] at h; injection h with h; exact .inl ⟨rfl, h.symm⟩
    · rw [upd_ne _ _ hi] at h; exact .inr ⟨hi, h⟩
  have old : ∀ {i b k}, G.f i = some b → (H ++ [some (mapBlk l)])[i]? = some (some k) → H[i]? = some (some k) := by
    intro i b k hf hk
    rw [List.getElem?_append_left (r.dom i b hf).lt] at hk; exact hk
  have hnew : (H ++ [some (mapBlk l)])[H.length]? = some (some (mapBlk l)) := by rw [List.getElem?_append_right (Nat.le_refl _), Nat.sub_self]; rfl
  have hM := (gr.ext g).mem
  refine ⟨gr.ext g, onew_gok g hid _, ⟨?_, ?_, ?_, ?_⟩, .map _ _ (upd_same _ _ _), ⟨?_, fun i off hm => ((ow.dom i off hm).append _).mono gr.f⟩⟩
  · intro i b h
    rcases split_ i b h with ⟨rfl, rfl⟩ | ⟨_, h⟩
    · exact ⟨_, hnew⟩
    · exact (r.dom i b h).append _
  · intro i b k h hk
    rcases split_ i b h with ⟨rfl, rfl⟩ | ⟨_, h⟩
    · rw [hnew] at hk; injection hk with hk; injection hk with hk; subst hk
      exact ⟨fun e => (by rw [show Nat.beq (mapBlk l).e LOOP = true from Nat.beq_refl _] at e; cases e), fun _ => .inr <| .inl ⟨l, es, cl, alloc_heap_new w _, .inl rfl, e1, fun j hj p e hp he => ⟨(e2 j hj p e hp he).1.mono hM, (e2 j hj p e hp he).2.mono hM⟩, hst⟩⟩
    · exact (r.blk i b k h (old h hk)).grow gr g (g.fin i b h).1
  · intro i j b k l h1 h2 hk hl n1 n2
    rcases split_ i b h1 with ⟨q1, q2⟩ | ⟨_, q1⟩ <;> rcases split_ j b h2 with ⟨q3, q4⟩ | ⟨_, q3⟩
    · rw [q1, q3]
    · have := (g.fin j _ q3).1; omega
    · have := (g.fin i _ q1).1; omega
    · exact r.inj i j b k l q1 q3 (old q1 hk) (old q3 hl) n1 n2
  · intro i b k h hk hn
    rcases split_ i b h with ⟨_, rfl⟩ | ⟨_, h⟩
    · exact fun _ => (g.new _ (Nat.le_refl _)).1
    · exact r.lim i b k h (old h hk) hn
  · intro i off b k cs hm hf hk hb
    rcases split_ i b hf with ⟨rfl, _⟩ | ⟨_, hf⟩
    · have := (ow.dom _ off hm).lt; omega
    · rw [gr.below.block b (g.fin i b hf).1] at hb
      exact (ow.cell i off b k cs hm hf (old hf hk) hb).grow gr
theorem clone_ok {f : FuncId} (h : CloneOk P f) : ShortOk P f cloneF where
  sound := by
    intro lo f1 args H own out hc G w vals hgl g hH ho ha
    simp only at hc
    split at hc
    case isFalse => cases hc
    rename_i he
    subst he
    unfold cloneF at hc
    split at hc
    · rename_i id
      split at hc
      · rename_i l hl
        injection hc with hc
        subst hc
        obtain ⟨v, rfl, hv⟩ := args_one' ha
        obtain ⟨b, hf, rfl⟩ := map_inv hv
        obtain ⟨es, cl, hm, e1, e2, hst⟩ := map_at hH (getMap_R hl) hf
        refine (h.1 b es cl w hm).mono ?_
        rintro e w' ⟨rfl, rfl⟩
        exact ⟨_, _, rfl, clone_done g hH ho hl hf hm e1 e2 hst⟩
      · cases hc
    · injection hc with hc
      subst hc
      obtain ⟨v, rfl, hv⟩ := args_one' ha
      cases hv
      refine (h.2 w).mono ?_
      rintro e w' ⟨rfl, rfl⟩
      exact ⟨_, G, rfl, ⟨Ext.refl _ _, g, hH, .nilm, ho⟩⟩
    · cases hc
  loc := by
    intro lo
    constructor
    · intro f1 args H own x H' own' hc hlo
      simp only at hc
      split at hc
      case isFalse => cases hc
      unfold cloneF at hc
      split at hc
      · split at hc
        · injection hc with hc; injection hc with h1 hc; injection hc with h2 h3; subst h2
          exact Lock.app hlo _
        · cases hc
      · injection hc with hc; injection hc with h1 hc; injection hc with h2 h3; subst h2; exact Lock.refl _ _
      · cases hc
    · intro f1 args H own x H' own' p k hc hp
      simp only at hc ⊢
      split at hc
      case isFalse => cases hc
      rename_i he
      rw [if_pos he]
      have hpl : p < H.length := (List.getElem?_eq_some_iff.1 hp).1
      unfold cloneF at hc ⊢
      split at hc
      · split at hc
        · rename_i id l hl
          injection hc with hc; injection hc with h1 hc; injection hc with h2 h3; subst h1 h2 h3
          refine ⟨by rw [List.getElem?_append_left hpl]; exact hp, ?_⟩
          simp only [getMap_fill hl hp, List.length_set]
          rw [List.set_append_left _ _ hpl]
        · cases hc
      · injection hc with hc; injection hc with h1 hc; injection hc with h2 h3; subst h1 h2 h3
        exact ⟨hp, rfl⟩
      · cases hc
end
end Go.Proofs.YtomheegfobcijaaGreatDoor.Am

/- sum.More, told by heart. -/
namespace Go.Proofs.YtomheegfobcijaaGreatDoor.Am
set_option linter.unusedVariables false
set_option linter.unusedSimpArgs false
open Go.RowKit

/-! ### calls of numbers and texts, told once for all memories -/
section
variable {P : Program} {K : Know}
def flatA : AV → Bool
  | .int _ _ => true
  | .str _ => true
  | .bool _ => true
  | _ => false
theorem rep_flat {M M' : Mem} {x : AV} {v : Value} (hx : flatA x = true) (h : Rep P M x v) : Rep P M' x v := by
  cases h <;> first
    | (cases hx; done)
    | constructor
theorem flat_quiet (hP : POk P) (hS : ShortSound P K) (hL : ShortLocal K) {f : FuncId} {F : List AV → Option AV}
    (h : ∀ args x, F args = some x → flatA x = true ∧ (∀ y ∈ args, flatA y = true) ∧ ∃ n H' own', callK P n K f args [] [] = some (x, H', own')) : QuietAt P f F := by
  intro args x hF G w vals g ha
  obtain ⟨hx, hargs, n, H', own', hc⟩ := h args x hF
  have hnf : ∀ q, ¬ Foot (Gh.mk G.lim (fun _ => none) (fun _ => 0) (fun _ => none) 0) q := by
    rintro q (⟨⟨id, _, h⟩, _⟩ | h)
    · cases h
    · cases h
  have g1 : GOk (Gh.mk G.lim (fun _ => none) (fun _ => 0) (fun _ => none) 0) w := ⟨fun id q h => (by cases h), fun q hq => ⟨(g.new q hq).1, rfl, rfl⟩, ⟨fun b hb => ⟨(g.held.lt b hb).1, hnf b⟩, g.held.is⟩⟩
  have h1 := (machine_sound hP n K hS hL).1 f args [] [] _ hc (Gh.mk G.lim (fun _ => none) (fun _ => 0) (fun _ => none) 0) w vals (Nat.zero_le _) g1 ⟨fun id q h => (by cases h), fun id q k h => (by cases h), fun i j q k l h => (by cases h), fun id q k h => (by cases h)⟩ ⟨fun id off q k cs h => (by cases h), fun id off h => (by cases h)⟩
    ⟨ha.1, fun i hi => rep_flat (hargs _ (by rw [List.getD_eq_getElem?_getD, List.getElem?_eq_getElem hi]; exact List.getElem_mem hi)) (ha.2 i hi)⟩
  refine h1.mono ?_
  rintro e w' ⟨v, G', rfl, hd⟩
  exact ⟨v, rfl, hd.ext.below (Nat.le_refl _) (fun b _ => hnf b), .inl (rep_flat hx hd.rep)⟩

variable {vars : Nat → List Nat} {nt : Nat} {env : Env} {H : Hp} {sl : List Nat} {cl : Cl} {Q : K6}
def scQ (Q : K6) : K6 := fun e env H sl cl =>
  match e with
  | .goto _ => False
  | .normal => Q .normal env H sl cl
  | .exit i => Q (.exit i) env H sl cl
  | .ret => Q .ret env H sl cl
theorem scope_one {self : Code → St → Option (Ex × St)} {c : Code} {k : Nat} {st st' : St} {e : Ex} (he : ∀ l, e ≠ .goto l) (h : self c st = some (e, st')) : scopeL self c (k + 1) c st = some (e, st') := by
  unfold scopeL
  rw [h]
  cases e with
  | goto l => exact absurd rfl (he l)
  | _ => rfl
theorem C_scope {c : Code} (h : C P K vars nt c env H sl cl (scQ Q)) : C P K vars nt (.scope c) env H sl cl Q := by
  refine ⟨fun st hs => ?_⟩
  obtain ⟨e, env', H', sl', cl', st1, h1, h5, h6⟩ := h.to st hs
  have hg : (∀ l, e ≠ .goto l) ∧ Q e env' H' sl' cl' := by
    cases e with
    | goto l => exact h1.elim
    | normal => exact ⟨fun l h => (by cases h), h1⟩
    | exit i => exact ⟨fun l h => (by cases h), h1⟩
    | ret => exact ⟨fun l h => (by cases h), h1⟩
  exact ⟨e, _, _, _, _, st1, hg.2, h5, h6.succ fun n hn => by rw [exec_succ]; exact scope_one (k := 99999) hg.1 hn⟩
theorem keep_at {vs : List Nat} {env1 : Env} {sl1 : List Nat} (e1 : keepE vs env = env1) (e2 : keepS vs sl = sl1) (k : Q .normal env1 H sl1 cl) : Q .normal (keepE vs env) H (keepS vs sl) cl := by subst e1 e2; exact k
end

def isTrue (o : Option Out) : Bool :=
  match o with
  | some (.bool b, _, _) => b
  | _ => false
theorem isTrue_some {o : Option Out} (h : isTrue o = true) : ∃ H own, o = some (.bool true, H, own) := by
  unfold isTrue at h
  split at h
  · exact ⟨_, _, by rw [h]⟩
  · cases h
/-! ### what it computes -/
def xorZ (a b : Int) : Int := IntKind.u32.wrap ((BitVec.ofInt IntKind.u32.bits a ^^^ BitVec.ofInt IntKind.u32.bits b).toNat : Int)
def andZ (a b : Int) : Int := IntKind.u32.wrap ((BitVec.ofInt IntKind.u32.bits a &&& BitVec.ofInt IntKind.u32.bits b).toNat : Int)
def notZ (a : Int) : Int := IntKind.u32.wrap ((BitVec.ofInt IntKind.u32.bits (if IntKind.u32.signed then -1 else IntKind.u32.max) ^^^ BitVec.ofInt IntKind.u32.bits a).toNat : Int)
def halfZ (a : Int) : Int := a.fdiv (2 ^ (min (1 : Int).toNat IntKind.u32.bits))
def roundZ (z : Int) : Int := cond (andZ z 1 != 0) (xorZ (halfZ z) 2197175160) (halfZ z)
def byteZ (z : Int) (c : UInt8) : Int := roundZ (roundZ (roundZ (roundZ (roundZ (roundZ (roundZ (roundZ (xorZ z (IntKind.u32.wrap (c.toNat : Int))))))))))
def bytesZ : List UInt8 → Int → Int
  | [], z => z
  | c :: r, z => bytesZ r (byteZ z c)
def moreF : List AV → Option AV
  | [.int .u32 z, .str b] => cond (Nat.blt b.length 9223372036854775807) (some (.int .u32 (notZ (bytesZ b (notZ z))))) none
  | _ => none

/-! ### that it does -/
def c1S : Code → Code | .seq a _ => a | .cond _ a _ => a | .block _ c => c | .loop c => c | .scope c => c | c => c
def c2S : Code → Code | .seq _ b => b | .cond _ _ b => b | c => c
def bodyS (f : Func) : Code := match f.body with | some c => c | none => .skip
def vsC : Nat → List Nat := fun r => [[1], [1, 3], [1, 3, 10], [1, 3], [1, 3, 4], [1, 3, 4], [1, 3, 19], [1, 3]].getD r []
def vsE : Nat → List Nat := fun r => [[0, 1, 6, 7], [0, 1, 6, 7, 8], [0, 1, 4, 6, 7], [0, 1, 6, 7], [0, 1, 6, 7]].getD r []
def vsM : Nat → List Nat := fun r => [[0, 1], [1, 5], [5], [4]].getD r []
def Ks : Know := ⟨fun f => cond (Nat.beq f 355) vsC (cond (Nat.beq f 354) vsE vsM), fun _ => none, fun _ => false, fun _ => false, 0⟩
abbrev cellS (z : Int) : Hp := [some ⟨356, [.int .u32 z]⟩]
noncomputable def loopC : Code := c1S (c2S (c2S (c2S (c1S (bodyS Tryz.f355)))))
noncomputable def loopE : Code := c1S (c2S (bodyS Tryz.f354))
set_option maxRecDepth 10000 in
theorem bits_step {k : Nat} (hk : k < 8) {z : Int} {Q : K6} (h : C Tryz.prog Ks vsC 22 loopC [(1, .ptr 0 0), (3, .int .i64 ((k : Int) + 1))] (cellS (roundZ z)) [] [] Q) : C Tryz.prog Ks vsC 22 loopC [(1, .ptr 0 0), (3, .int .i64 (k : Int))] (cellS z) [] [] Q := by
  refine C_round ?_
  refine C_block ?_
  refine C_seq ?_
  refine C_seq ?_
  refine C_reg ?_
  refine O_move (.int .i64 (k : Int)) rfl rfl rfl rfl rfl ?_
  refine O_pure (.bool ((k : Int) == 8)) rfl rfl rfl rfl ?_
  refine O_nil ?_
  refine keep_at (env1 := [(1, .ptr 0 0), (3, .int .i64 (k : Int)), (10, .bool ((k : Int) == 8))]) (sl1 := []) rfl rfl ?_
  refine C_cond ((k : Int) == 8) rfl (fun hc => ?_) (fun _ => ?_)
  · have := of_decide_eq_true hc; omega
  refine C_skip ?_
  refine C_seq ?_
  refine C_reg ?_
  refine O_move (.int .i64 (k : Int)) rfl rfl rfl rfl rfl ?_
  refine O_pure (.int .i64 ((k : Int) + 1)) rfl (add_i64 rfl rfl (by omega) (by omega)) rfl rfl ?_
  refine O_asg (.int .i64 ((k : Int) + 1)) rfl rfl rfl rfl ?_
  refine O_nil ?_
  refine keep_at (env1 := [(1, .ptr 0 0), (3, .int .i64 ((k : Int) + 1))]) (sl1 := []) rfl rfl ?_
  refine C_seq ?_
  refine C_reg ?_
  refine O_load (cl' := []) (id := 0) (off := 0) (.int .u32 z) rfl rfl rfl rfl rfl rfl rfl (fun p h => by cases h) ?_
  refine O_pure (.int .u32 (andZ z 1)) rfl rfl rfl rfl ?_
  refine O_pure (.bool (andZ z 1 != 0)) rfl rfl rfl rfl ?_
  refine O_asg (.bool (andZ z 1 != 0)) rfl rfl rfl rfl ?_
  refine O_nil ?_
  refine keep_at (env1 := [(1, .ptr 0 0), (3, .int .i64 ((k : Int) + 1)), (4, .bool (andZ z 1 != 0))]) (sl1 := []) rfl rfl ?_
  refine C_seq ?_
  refine C_reg ?_
  refine O_load (cl' := []) (id := 0) (off := 0) (.int .u32 z) rfl rfl rfl rfl rfl rfl rfl (fun p h => by cases h) ?_
  refine O_pure (.int .u32 (halfZ z)) rfl rfl rfl rfl ?_
  refine O_store (sl' := []) (cl' := []) (id := 0) (off := 0) (.int .u32 (halfZ z)) rfl rfl rfl rfl rfl rfl rfl (fun q h => by cases h) (fun i o h => by cases h) fun H1 e1 => ?_
  obtain rfl : cellS (halfZ z) = H1 := e1
  refine O_nil ?_
  refine keep_at (env1 := [(1, .ptr 0 0), (3, .int .i64 ((k : Int) + 1)), (4, .bool (andZ z 1 != 0))]) (sl1 := []) rfl rfl ?_
  refine C_seq ?_
  refine C_seq ?_
  refine C_reg ?_
  refine O_move (.bool (andZ z 1 != 0)) rfl rfl rfl rfl rfl ?_
  refine O_pure (.bool (!(andZ z 1 != 0))) rfl rfl rfl rfl ?_
  refine O_nil ?_
  refine keep_at (env1 := [(1, .ptr 0 0), (3, .int .i64 ((k : Int) + 1)), (19, .bool (!(andZ z 1 != 0)))]) (sl1 := []) rfl rfl ?_
  unfold roundZ at h
  cases hb : (andZ z 1 != 0) with
  | false =>
    rw [hb] at h
    refine C_true rfl ?_
    refine C_exit ?_
    refine C_weak (env1 := [(1, .ptr 0 0), (3, .int .i64 ((k : Int) + 1))]) h (fun s v hv => ?_) (fun s h => h) (fun p h => h)
    simp only [lookE] at hv ⊢
    cases h1 : Nat.beq 1 s with
    | true => rw [h1] at hv; exact hv
    | false =>
      rw [h1] at hv
      cases h3 : Nat.beq 3 s with
      | true => rw [h3] at hv; exact hv
      | false => rw [h3] at hv; cases hv
  | true =>
    rw [hb] at h
    refine C_false rfl ?_
    refine C_skip ?_
    refine C_reg ?_
    refine O_load (cl' := []) (id := 0) (off := 0) (.int .u32 (halfZ z)) rfl rfl rfl rfl rfl rfl rfl (fun p h => by cases h) ?_
    refine O_pure (.int .u32 (xorZ (halfZ z) 2197175160)) rfl rfl rfl rfl ?_
    refine O_store (sl' := []) (cl' := []) (id := 0) (off := 0) (.int .u32 (xorZ (halfZ z) 2197175160)) rfl rfl rfl rfl rfl rfl rfl (fun q h => by cases h) (fun i o h => by cases h) fun H2 e2 => ?_
    obtain rfl : cellS (xorZ (halfZ z) 2197175160) = H2 := e2
    refine O_nil ?_
    exact h
theorem bits_end {z : Int} {Q : K6} (h : Q (.exit 0) [(1, .ptr 0 0), (3, .int .i64 8), (10, .bool true)] (cellS z) [] []) : C Tryz.prog Ks vsC 22 loopC [(1, .ptr 0 0), (3, .int .i64 8)] (cellS z) [] [] Q := by
  refine C_round ?_
  refine C_block ?_
  refine C_seq ?_
  refine C_seq ?_
  refine C_reg ?_
  refine O_move (.int .i64 8) rfl rfl rfl rfl rfl ?_
  refine O_pure (.bool true) rfl rfl rfl rfl ?_
  refine O_nil ?_
  refine keep_at (env1 := [(1, .ptr 0 0), (3, .int .i64 8), (10, .bool true)]) (sl1 := []) rfl rfl ?_
  refine C_true rfl ?_
  refine C_exit ?_
  exact h
set_option maxRecDepth 10000 in
theorem byte_calls (z : Int) (c : UInt8) : CallsR Tryz.prog Ks 355 [.int .u8 (c.toNat : Int), .ptr 0 0] (cellS z) [] fun x H' cl' => H' = cellS (byteZ z c) ∧ cl' = [] := by
  refine calls_by Tryz.func355 rfl rfl rfl (by rfl) ?_
  refine C_scope ?_
  refine C_seq ?_
  refine C_reg ?_
  refine O_load (cl' := []) (id := 0) (off := 0) (.int .u32 z) rfl rfl rfl rfl rfl rfl rfl (fun p h => by cases h) ?_
  refine O_move (.int .u8 (c.toNat : Int)) rfl rfl rfl rfl rfl ?_
  refine O_pure (.int .u32 (IntKind.u32.wrap (c.toNat : Int))) rfl rfl rfl rfl ?_
  refine O_pure (.int .u32 (xorZ z (IntKind.u32.wrap (c.toNat : Int)))) rfl rfl rfl rfl ?_
  refine O_store (sl' := []) (cl' := []) (id := 0) (off := 0) (.int .u32 (xorZ z (IntKind.u32.wrap (c.toNat : Int)))) rfl rfl rfl rfl rfl rfl rfl (fun q h => by cases h) (fun i o h => by cases h) fun H1 e1 => ?_
  obtain rfl : cellS (xorZ z (IntKind.u32.wrap (c.toNat : Int))) = H1 := e1
  refine O_nil ?_
  refine keep_at (env1 := [(1, .ptr 0 0)]) (sl1 := []) rfl rfl ?_
  refine C_seq ?_
  refine C_reg ?_
  refine O_asgC (.int .i64 0) rfl rfl rfl rfl rfl ?_
  refine O_nil ?_
  refine keep_at (env1 := [(1, .ptr 0 0), (3, .int .i64 0)]) (sl1 := []) rfl rfl ?_
  refine C_seq ?_
  refine C_label ?_
  refine C_block ?_
  refine bits_step (k := 0) (by decide) (bits_step (k := 1) (by decide) (bits_step (k := 2) (by decide) (bits_step (k := 3) (by decide) (bits_step (k := 4) (by decide) (bits_step (k := 5) (by decide) (bits_step (k := 6) (by decide) (bits_step (k := 7) (by decide) (bits_end ?_))))))))
  exact ⟨_, rfl, rfl, rfl⟩
theorem bytes_loop (b : List UInt8) (hb : b.length < 9223372036854775807) : ∀ (n i : Nat) (z : Int), i + n = b.length → C Tryz.prog Ks vsE 16 loopE [(0, .str b), (1, .fn 355 [.ptr 0 0]), (6, .int .i64 (b.length : Int)), (7, .int .i64 (i : Int))] (cellS z) [] [] fun e env H sl cl => e = .exit 0 ∧ H = cellS (bytesZ (b.drop i) z) ∧ cl = []
  | 0, i, z, hi => by
    refine C_round ?_
    refine C_seq ?_
    refine C_reg ?_
    refine O_pure (.bool (decide ((i : Int) < (b.length : Int)))) rfl rfl rfl rfl ?_
    refine O_nil ?_
    refine keep_at (env1 := [(0, .str b), (1, .fn 355 [.ptr 0 0]), (6, .int .i64 (b.length : Int)), (7, .int .i64 (i : Int)), (8, .bool (decide ((i : Int) < (b.length : Int))))]) (sl1 := []) rfl rfl ?_
    refine C_seq ?_
    refine C_if ((i : Int) < (b.length : Int)) rfl (fun hc => ?_) (fun _ => ?_)
    · omega
    refine C_exit ?_
    exact ⟨rfl, by rw [List.drop_eq_nil_of_le (by omega)]; rfl, rfl⟩
  | n + 1, i, z, hi => by
    have hlt : i < b.length := by omega
    have hget : b[i]? = some b[i] := List.getElem?_eq_getElem hlt
    refine C_round ?_
    refine C_seq ?_
    refine C_reg ?_
    refine O_pure (.bool (decide ((i : Int) < (b.length : Int)))) rfl rfl rfl rfl ?_
    refine O_nil ?_
    refine keep_at (env1 := [(0, .str b), (1, .fn 355 [.ptr 0 0]), (6, .int .i64 (b.length : Int)), (7, .int .i64 (i : Int)), (8, .bool (decide ((i : Int) < (b.length : Int))))]) (sl1 := []) rfl rfl ?_
    refine C_seq ?_
    refine C_if ((i : Int) < (b.length : Int)) rfl (fun _ => ?_) (fun hc => absurd (show (i : Int) < (b.length : Int) by omega) hc)
    refine C_skip ?_
    refine C_seq ?_
    refine C_block ?_
    refine C_seq ?_
    refine C_reg ?_
    refine O_move (.int .i64 (i : Int)) rfl rfl rfl rfl rfl ?_
    refine O_asg (.int .i64 (i : Int)) rfl rfl rfl rfl ?_
    refine O_nil ?_
    refine keep_at (env1 := [(0, .str b), (1, .fn 355 [.ptr 0 0]), (4, .int .i64 (i : Int)), (6, .int .i64 (b.length : Int)), (7, .int .i64 (i : Int))]) (sl1 := []) rfl rfl ?_
    refine C_reg ?_
    refine O_move (.fn 355 [.ptr 0 0]) rfl rfl rfl rfl rfl ?_
    refine O_move (.str b) rfl rfl rfl rfl rfl ?_
    refine O_move (.int .i64 (i : Int)) rfl rfl rfl rfl rfl ?_
    refine O_pure (.int .u8 (b[i].toNat : Int)) rfl (idx_str rfl rfl Tryz.underlying9 hget) rfl rfl ?_
    refine O_call (sl' := []) [.int .u8 (b[i].toNat : Int)] rfl rfl rfl (by kernel_rfl) rfl rfl rfl (byte_calls z b[i]) ?_
    rintro x H' cl' ⟨rfl, rfl⟩
    refine O_nil ?_
    refine keep_at (env1 := [(0, .str b), (1, .fn 355 [.ptr 0 0]), (6, .int .i64 (b.length : Int)), (7, .int .i64 (i : Int))]) (sl1 := []) rfl rfl ?_
    refine C_reg ?_
    refine O_pure (.int .i64 ((i : Int) + 1)) rfl (add_i64 rfl rfl (by omega) (by omega)) rfl rfl ?_
    refine O_move (.int .i64 ((i : Int) + 1)) rfl rfl rfl rfl rfl ?_
    refine O_nil ?_
    refine keep_at (env1 := [(0, .str b), (1, .fn 355 [.ptr 0 0]), (6, .int .i64 (b.length : Int)), (7, .int .i64 ((i : Int) + 1))]) (sl1 := []) rfl rfl ?_
    have ih := bytes_loop b hb n (i + 1) (byteZ z b[i]) (by omega)
    refine C_mono ih ?_
    rintro e env H sl cl ⟨he, hH, hcl⟩
    refine ⟨he, ?_, hcl⟩
    rw [hH, List.drop_eq_getElem_cons hlt]
    rfl
set_option maxRecDepth 100000 in
theorem each_calls (b : List UInt8) (hb : b.length < 9223372036854775807) (z : Int) : CallsR Tryz.prog Ks 354 [.str b, .fn 355 [.ptr 0 0]] (cellS z) [] fun x H' cl' => H' = cellS (bytesZ b z) ∧ cl' = [] := by
  refine calls_by Tryz.func354 rfl rfl rfl (by rfl) ?_
  refine C_seq ?_
  refine C_reg ?_
  refine O_move (.str b) rfl rfl rfl rfl rfl ?_
  refine O_pure (.int .i64 (b.length : Int)) rfl rfl rfl rfl ?_
  refine O_moveC (.int .i64 0) rfl rfl rfl rfl rfl ?_
  refine O_nil ?_
  refine keep_at (env1 := [(0, .str b), (1, .fn 355 [.ptr 0 0]), (6, .int .i64 (b.length : Int)), (7, .int .i64 0)]) (sl1 := []) rfl rfl ?_
  refine C_block ?_
  refine C_mono (bytes_loop b hb b.length 0 z (by omega)) ?_
  rintro e env H sl cl ⟨rfl, rfl, rfl⟩
  exact ⟨_, rfl, rfl, rfl⟩
set_option maxRecDepth 100000 in
theorem more_calls (b : List UInt8) (hb : b.length < 9223372036854775807) (z : Int) : CallsR Tryz.prog Ks 324 [.int .u32 z, .str b] [] [] fun x H' cl' => x = .int .u32 (notZ (bytesZ b (notZ z))) := by
  refine calls_by Tryz.func324 rfl rfl rfl (by rfl) ?_
  refine C_seq ?_
  refine C_reg ?_
  refine O_asgC (.int .u32 0) rfl rfl rfl rfl rfl ?_
  refine O_nil ?_
  refine keep_at (env1 := [(0, .int .u32 z), (1, .str b)]) (sl1 := []) rfl rfl ?_
  refine C_seq ?_
  refine C_reg ?_
  refine O_move (.int .u32 z) rfl rfl rfl rfl rfl ?_
  refine O_pure (.int .u32 (notZ z)) rfl rfl rfl rfl ?_
  refine O_alloc (sl' := []) [.int .u32 0] rfl (by kernel_rfl) rfl rfl rfl fun id H1 e0 e1 => ?_
  subst e0 e1
  refine O_store (sl' := []) (cl' := []) (id := 0) (off := 0) (.int .u32 (notZ z)) rfl rfl rfl rfl rfl rfl rfl (fun q h => by cases h) (fun i o h => by cases h) fun H2 e2 => ?_
  obtain rfl : cellS (notZ z) = H2 := e2
  refine O_nil ?_
  refine keep_at (env1 := [(1, .str b), (5, .ptr 0 0)]) (sl1 := []) rfl rfl ?_
  refine C_seq ?_
  refine C_reg ?_
  refine O_move (.str b) rfl rfl rfl rfl rfl ?_
  refine O_pure (.fn 355 [.ptr 0 0]) rfl rfl rfl rfl ?_
  refine O_call (sl' := []) [.str b, .fn 355 [.ptr 0 0]] rfl rfl rfl (by kernel_rfl) rfl rfl rfl (each_calls b hb (notZ z)) ?_
  rintro x H' cl' ⟨rfl, rfl⟩
  refine O_nil ?_
  refine keep_at (env1 := [(5, .ptr 0 0)]) (sl1 := []) rfl rfl ?_
  refine C_seq ?_
  refine C_reg ?_
  refine O_load (cl' := []) (id := 0) (off := 0) (.int .u32 (bytesZ b (notZ z))) rfl rfl rfl rfl rfl rfl rfl (fun p h => by cases h) ?_
  refine O_pure (.int .u32 (notZ (bytesZ b (notZ z)))) rfl rfl rfl rfl ?_
  refine O_asg (.int .u32 (notZ (bytesZ b (notZ z)))) rfl rfl rfl rfl ?_
  refine O_nil ?_
  refine keep_at (env1 := [(4, .int .u32 (notZ (bytesZ b (notZ z))))]) (sl1 := []) rfl rfl ?_
  refine C_ret ?_
  exact ⟨_, rfl, rfl⟩
theorem more_quiet : QuietAt Tryz.prog 324 moreF := by
  refine flat_quiet pok (none_sound (K := Ks) rfl) (none_local (K := Ks) rfl) ?_
  intro args x hF
  unfold moreF at hF
  split at hF
  · rename_i z b
    cases hb : Nat.blt b.length 9223372036854775807 with
    | false => rw [hb] at hF; cases hF
    | true =>
      rw [hb] at hF
      injection hF with hF
      subst hF
      refine ⟨rfl, fun y hy => ?_, ?_⟩
      · rcases List.mem_cons.1 hy with rfl | hy
        · rfl
        · rcases List.mem_cons.1 hy with rfl | hy
          · rfl
          · cases hy
      · obtain ⟨x, H', cl', own', rfl, _, N, hN⟩ := more_calls b (Nat.blt_eq.mp hb) z [] ⟨fun s h => (by cases h), fun i o h => (by cases h)⟩
        exact ⟨N, H', own', hN N (Nat.le_refl _)⟩
  · cases hF
theorem more_ok : ShortOk Tryz.prog 324 (quiet moreF) := quiet_ok more_quiet
end Go.Proofs.YtomheegfobcijaaGreatDoor.Am

/- The laws by heart, at a seat. -/
namespace Go.Proofs.YtomheegfobcijaaGreatDoor.Am
open Go.RowKit Go.Maps Go.Sort Go.Shelf
set_option linter.unusedVariables false

theorem keysFile_ok : KeysOk Tryz.prog 9 210 := fun Bm b nn D0 w hBm hm hown =>
  AnyZ.keys_gives (ρ := Tryz.keys118_ren) { Tryz.keys118 with } Fence.wide 2 trivial rfl (by omega) Bm b nn D0 w hBm hm hown
/-- The functions that tell a map's keys. -/
def keysFs : List FuncId := [210
  ]
theorem keysFs_ok : ∀ g ∈ keysFs, KeysOk Tryz.prog 9 g := by
  intro g hg
  unfold keysFs at hg
  rcases List.mem_cons.1 hg with rfl | hg
  · exact keysFile_ok
  cases hg
theorem keysFs_enter : ∀ g ∈ keysFs, ∃ fn, Tryz.prog.funcs[g]? = some fn ∧ (∀ args w, (callFunc g args).run Tryz.prog w = .ok (.enter g args) w) := by
  intro g hg
  unfold keysFs at hg
  rcases List.mem_cons.1 hg with rfl | hg
  · exact ⟨_, Tryz.func210, enters_of Tryz.func210 (by kernel_rfl) rfl⟩
  cases hg
theorem sorts_in (m : Nat) : AnyZ.SortsIn Tryz.prog Tryz.sorted117_ren Fence.wide m :=
  ⟨fun blk off cap ss W hH hblk hsz => callsIn_wide.2 (AnyM.slices_Sort_string Tryz.sort209 blk off cap ss W hH hblk hsz),
   fun p cap W => callsIn_wide.2 (AnyM.slices_Sort_string_none Tryz.sort209 p cap W)⟩
theorem sorted_ok : SortedOk Tryz.prog 117 9 keysFs := fun g hg lb S N hN hNb w hseq => by
  obtain ⟨fn, _, hent⟩ := keysFs_enter g hg
  exact (callsIn_wide (n := 5)).1 (AnyZ.sorted_in Tryz.sorted117 Fence.wide 5 trivial trivial trivial trivial rfl (by omega) (sorts_in _) (enters_of Tryz.func209 (by kernel_rfl) rfl) g lb trivial hent S N hN hNb w hseq)
theorem cloneFile_ok : CloneOk Tryz.prog 183 := ⟨fun b es clock w hb => AnyW.maps_Clone Tryz.clone183 b es clock w hb, fun w => AnyW.maps_Clone_nil Tryz.clone183 w⟩

/-! ### strconv.Itoa, strings.Repeat -/
def itoaF : List AV → Option AV
  | [.int .i64 n] => if 0 ≤ n ∧ n < 100 then some (.str (numeral n.toNat)) else none
  | _ => none
theorem itoa_at : QuietAt Tryz.prog 160 itoaF := by
  intro args x hx G w vals g ha
  unfold itoaF at hx
  split at hx
  · rename_i n
    split at hx
    · rename_i hl
      injection hx with hx
      subst hx
      obtain ⟨v, rfl, h1⟩ := args_one' ha
      rw [int_inv h1]
      obtain ⟨c, rfl⟩ : ∃ c : Nat, n = c := ⟨n.toNat, by omega⟩
      refine (Tryz.strconv_Itoa_small c (by omega) w).mono ?_
      rintro e w' ⟨rfl, rfl⟩
      refine ⟨_, rfl, Below.refl _ _, .inl ?_⟩
      rw [Int.toNat_natCast, numeral_dec (by omega)]
      exact .str _
    · cases hx
  · cases hx
def repL (s : Bytes) : Nat → Bytes
  | 0 => []
  | c + 1 => s ++ repL s c
theorem repL_eq (s : Bytes) : ∀ c, repL s c = Lib.repeatL s c
  | 0 => rfl
  | c + 1 => by rw [repL, Lib.repeatL, repL_eq s c]
def repF : List AV → Option AV
  | [.str s, .int .i64 n] => if 0 ≤ n ∧ n ≤ 1000000 ∧ s.length ≤ 1000000 then some (.str (repL s n.toNat)) else none
  | _ => none
theorem rep_at : QuietAt Tryz.prog 115 repF := by
  intro args x hx G w vals g ha
  unfold repF at hx
  split at hx
  · rename_i s n
    split at hx
    · rename_i hl
      injection hx with hx
      subst hx
      obtain ⟨v, u, rfl, h1, h2⟩ := args_two ha
      rw [str_inv h1, int_inv h2]
      obtain ⟨c, rfl⟩ : ∃ c : Nat, n = c := ⟨n.toNat, by omega⟩
      have hsz : (⟨⟨s⟩⟩ : ByteArray).size = s.length := rfl
      refine (Tryz.strings_Repeat ⟨⟨s⟩⟩ c w (by omega) (by rw [hsz]; have := Nat.mul_le_mul hl.2.2 (by omega : c ≤ 1000000); omega)).mono ?_
      rintro e w' ⟨rfl, hB⟩
      refine ⟨_, rfl, hB, .inl ?_⟩
      rw [Int.toNat_natCast, repL_eq]
      exact .str _
    · cases hx
  · cases hx
def copyF : List AV → Option AV
  | [.str s] => if s.length ≤ 1000000 then some (.str s) else none
  | _ => none
theorem copy_at : QuietAt Tryz.prog 130 copyF := by
  intro args x hx G w vals g ha
  unfold copyF at hx
  split at hx
  · rename_i s
    split at hx
    · rename_i hl
      injection hx with hx
      subst hx
      obtain ⟨v, rfl, h1⟩ := args_one' ha
      rw [str_inv h1]
      have hsz : (⟨⟨s⟩⟩ : ByteArray).size = s.length := rfl
      refine (Tryz.stringslite_Clone ⟨⟨s⟩⟩ w (by omega)).mono ?_
      rintro e w' ⟨rfl, hB⟩
      exact ⟨_, rfl, hB, .inl (.str _)⟩
    · cases hx
  · cases hx
theorem syntax_held {G : Gh} {w : World} (g : GOk G w) : ∃ tp p, w.cell? ⟨1, 0, none⟩ = some (.iface tp p) := by
  obtain ⟨tp, p, t, fr, h⟩ := g.held.is
  have h : (if 1 < glN then w.heap[1]? else none) = some (.cells #[Value.iface tp p] t fr) := h
  rw [if_pos (by decide)] at h
  exact ⟨tp, p, by simp [World.cell?, h]⟩
def atoiG : List AV → Option AV
  | [.str s] => if s.length ≤ 1000000 then (match Lib.atoiAll s with
    | .ok v => some (.tup [.int .i64 v, .nili])
    | .range => none
    | _ => some (.tup [.int .i64 0, .iface 313 .undef])) else none
  | _ => none
theorem rep_two {P : Program} {M : Mem} {x y : AV} {u v : Value} (h : Rep P M x u) (k : Rep P M y v) : Rep P M (.tup [x, y]) (.tuple #[u, v]) := by
  refine .tup _ _ rfl fun i hi => ?_
  match i, hi with
  | 0, _ => exact h
  | 1, _ => exact k
theorem atoi_at : QuietAt Tryz.prog 307 atoiG := by
  intro args x hx G w vals g ha
  unfold atoiG at hx
  split at hx
  · rename_i s
    split at hx
    · rename_i hl
      obtain ⟨v, rfl, h1⟩ := args_one' ha
      rw [str_inv h1]
      have hsz : (⟨⟨s⟩⟩ : ByteArray).size = s.length := rfl
      split at hx
      · rename_i n hn
        injection hx with hx; subst hx
        refine (Tryz.strconv_Atoi_ok ⟨⟨s⟩⟩ (by omega) n hn w).mono ?_
        rintro e w' ⟨rfl, h | ⟨t, h⟩⟩
        · subst h; exact ⟨_, rfl, Below.refl _ _, .inl (rep_two (.int _ _) .nili)⟩
        · subst h; exact ⟨_, rfl, Go.Lib.bytesWorld_below _ _ _, .inl (rep_two (.int _ _) .nili)⟩
      · cases hx
      · rename_i hn hr
        injection hx with hx; subst hx
        obtain ⟨tp, p, hc⟩ := syntax_held g
        refine (Tryz.strconv_Atoi_syntax ⟨⟨s⟩⟩ (by omega) ⟨fun v e => hn v e, fun e => hr e⟩ _ w hc (.inr ⟨tp, p, rfl⟩)).mono ?_
        rintro e w' ⟨N, rfl, _, _, hB⟩
        exact ⟨_, rfl, hB, .inl (rep_two (.int _ _) (.iface _ _ _ (.undef _)))⟩
    · cases hx
  · cases hx
def parseG : List AV → Option AV
  | [.str s, .int .i64 10, .int .i64 64] => if s.length ≤ 1000000 then (match Lib.parseUintB 64 s with
    | .ok v => some (.tup [.int .u64 v, .nili])
    | .range => none
    | _ => some (.tup [.int .u64 0, .iface 313 .undef])) else none
  | _ => none
theorem parse_at : QuietAt Tryz.prog 47 parseG := by
  intro args x hx G w vals g ha
  unfold parseG at hx
  split at hx
  · rename_i s
    split at hx
    · rename_i hl
      obtain ⟨v, u, z, rfl, h1, h2, h3⟩ := args_three ha
      rw [str_inv h1, int_inv h2, int_inv h3]
      have hsz : (⟨⟨s⟩⟩ : ByteArray).size = s.length := rfl
      split at hx
      · rename_i n hn
        injection hx with hx; subst hx
        refine (Tryz.strconv_ParseUint_10_at64_ok ⟨⟨s⟩⟩ (by omega) n hn w).mono ?_
        rintro e w' ⟨rfl, h | h⟩
        · subst h; exact ⟨_, rfl, Below.refl _ _, .inl (rep_two (.int _ _) .nili)⟩
        · subst h; exact ⟨_, rfl, Go.Lib.bytesWorld_below _ _ _, .inl (rep_two (.int _ _) .nili)⟩
      · cases hx
      · rename_i hn hr
        injection hx with hx; subst hx
        obtain ⟨tp, p, hc⟩ := syntax_held g
        refine (Tryz.strconv_ParseUint_10_at64_syntax ⟨⟨s⟩⟩ (by omega) ⟨fun v e => hn v e, fun e => hr e⟩ _ w hc (.inr ⟨tp, p, rfl⟩)).mono ?_
        rintro e w' ⟨N, rfl, _, _, hB⟩
        exact ⟨_, rfl, hB, .inl (rep_two (.int _ _) (.iface _ _ _ (.undef _)))⟩
    · cases hx
  · cases hx
def libs : List (FuncId × ShortF) := [(175, reads_ usedF), (117, reads_ (sortedF 9 keysFs)), (183, cloneF), (160, quiet itoaF), (115, quiet repF), (130, quiet copyF), (307, quiet atoiG), (324, quiet moreF)]
  ++ [(47, quiet parseG)]
theorem libs_ok : AllOk Tryz.prog libs :=
  ⟨reads_ok used_at used_fills, reads_ok (sorted_reads Tryz.underlying9 (by kernel_rfl) keysFs_ok sorted_ok) sorted_fills, clone_ok cloneFile_ok, quiet_ok itoa_at, quiet_ok rep_at, quiet_ok copy_at, quiet_ok atoi_at, more_ok,
  quiet_ok parse_at,
  trivial⟩
end Go.Proofs.YtomheegfobcijaaGreatDoor.Am

/- A long run, cut in pieces: the states between them are told. -/
namespace Go.Proofs.YtomheegfobcijaaGreatDoor.Am
set_option linter.unusedVariables false
def bk (e : TypeId) (cs : List AV) : Option Blk := some ⟨e, cs⟩
/-- What is left of a code after so many of its parts. -/
def restC : Nat → Code → Code
  | 0, c => c
  | j + 1, .seq a b => restC j b
  | _ + 1, c => c
noncomputable def cutF (P : Program) (K : Know) (vars : Nat → List Nat) (nt : Nat) : Nat → Nat → Code → St → Option St
  | 0, _, _, st => some st
  | j + 1, n + 1, .seq a b, st => match mloopOf a b with
    | some _ => none
    | none => match (machF P n).2 K vars nt a st with
      | some (.normal, st') => cutF P K vars nt j n b st'
      | _ => none
  | _ + 1, _, _, _ => none
theorem cutF_ok (P : Program) (K : Know) (vars : Nat → List Nat) (nt : Nat) : ∀ (j n : Nat) (c : Code) (st st' : St) (r : Ex × St), cutF P K vars nt j n c st = some st' → execK P (n - j) K vars nt (restC j c) st' = some r → execK P n K vars nt c st = some r
  | 0, n, c, st, st', r, h, hr => by
    have h : some st = some st' := by cases n <;> exact h
    injection h with h; subst h; exact hr
  | j + 1, 0, c, st, st', r, h, hr => by cases c <;> cases h
  | j + 1, n + 1, c, st, st', r, h, hr => by
    cases c
    case seq a b =>
      have h : (match mloopOf a b with
        | some _ => none
        | none => match (machF P n).2 K vars nt a st with
          | some (.normal, st') => cutF P K vars nt j n b st'
          | _ => none) = some st' := h
      cases hm : mloopOf a b with
      | some L => rw [hm] at h; cases h
      | none =>
        rw [hm, (all_F P n).2] at h
        simp only at h
        split at h
        · rename_i st1 h1
          have hr : execK P (n - j) K vars nt (restC j b) st' = some r := by
            have e : n + 1 - (j + 1) = n - j := by omega
            rw [e] at hr
            exact hr
          have h2 := cutF_ok P K vars nt j n b st1 st' r h hr
          rw [exec_succ]
          unfold execWith
          simp only [hm, h1, h2]
        · cases h
    all_goals cases h
theorem restC_add (i : Nat) : ∀ (j : Nat) (c : Code), restC i (restC j c) = restC (j + i) c
  | 0, c => by rw [Nat.zero_add]; rfl
  | j + 1, c => by
    have e : j + 1 + i = (j + i) + 1 := by omega
    rw [e]
    cases c
    case seq a b => exact restC_add i j b
    all_goals (cases i <;> rfl)
/-- The function's code, after so many of its parts. -/
def partC (P : Program) (f : FuncId) (j : Nat) : Code :=
  match P.funcs[f]? with
  | some fn => match fn.body with
    | some c => restC j c
    | none => .skip
  | none => .skip
def ntC (P : Program) (f : FuncId) : Nat :=
  match P.funcs[f]? with
  | some fn => fn.ntmps
  | none => 0
/-- The last piece: it returns true. -/
def endsTrue (P : Program) (K : Know) (f : FuncId) (o : Option (Ex × St)) : Bool :=
  match P.funcs[f]? with
  | some fn => match o with
    | some (.ret, st) => (match look st.env DEF with
      | .undef => isTrue ((resultsA P st fn.results.toList).map fun x => (x, st.H, st.own.filter Loc.isCell))
      | _ => false)
    | _ => false
  | none => false
theorem ends_ok {P : Program} {K : Know} {f : FuncId} {N i : Nat} {a : St} (h : endsTrue P K f ((machF P (N - i)).2 K (K.vars f) (ntC P f) (partC P f i) a) = true) : ∃ st, execK P (N - i) K (K.vars f) (ntC P f) (partC P f i) a = some (.ret, st) ∧ ∀ ex fn, P.funcs[f]? = some fn → isTrue (endA ex P K fn.results.toList st) = true := by
  rw [(all_F P (N - i)).2] at h
  unfold endsTrue at h
  split at h
  case h_2 => cases h
  rename_i fn hf
  split at h
  case h_2 => cases h
  rename_i st ho
  refine ⟨st, ho, fun ex fn' hf' => ?_⟩
  obtain rfl : fn = fn' := by rw [hf] at hf'; injection hf'
  unfold endA
  split at h
  · rename_i hd
    rw [hd]
    exact h
  · cases h
theorem pieces_run {P : Program} {K : Know} {f : FuncId} {N : Nat} {fn : Func} {c : Code} (hs : K.short f = none) (hb : K.bad f = false) (hz : K.fz f = false) (hf : P.funcs[f]? = some fn) (hc : fn.body = some c) {st : St} (h : execK P N K (K.vars f) (ntC P f) (partC P f 0) ⟨[], [], []⟩ = some (.ret, st)) (he : ∀ ex fn, P.funcs[f]? = some fn → isTrue (endA ex P K fn.results.toList st) = true) : isTrue (callK P (N + 1) K f [] [] []) = true := by
  have hn : ntC P f = fn.ntmps := by unfold ntC; rw [hf]
  have hp : partC P f 0 = c := by unfold partC; rw [hf]; simp only [hc]; rfl
  rw [hn, hp] at h
  unfold callK
  rw [hs]
  simp only [hb, hz, cond_false, fzOut]
  unfold bodyA
  rw [hf]
  simp only [hc, List.length_nil, Nat.zero_le, if_true, zipArgs, List.filter_nil, h]
  exact he _ fn hf
/-- The bodies that a code hands to what walks for it. -/
def rfOf : Code → List (List Nat × Code × Code)
  | .rangeFunc _ ps a b => (ps.toList, a, b) :: (rfOf a ++ rfOf b)
  | .seq a b => rfOf a ++ rfOf b
  | .cond _ a b => rfOf a ++ rfOf b
  | .block _ c => rfOf c
  | .loop c => rfOf c
  | .scope c => rfOf c
  | _ => []
def rfNth (l : List (List Nat × Code × Code)) (k : Nat) : List Nat × Code × Code := l.getD k ([], .skip, .skip)
/-- What is laid down while one of them is walked. -/
noncomputable def rcdOf (P : Program) (K : Know) (f k : Nat) (env : List (Nat × AV)) : AV := .rcd (K.vars f) (ntC P f) env (rfNth (rfOf (partC P f 0)) k).1 (rfNth (rfOf (partC P f 0)) k).2.1 (rfNth (rfOf (partC P f 0)) k).2.2
theorem piece_ok {P : Program} {K : Know} {f : FuncId} {N i j : Nat} {a b : St} {r : Ex × St} (h : cutF P K (K.vars f) (ntC P f) j (N - i) (partC P f i) a = some b) (hr : execK P (N - (i + j)) K (K.vars f) (ntC P f) (partC P f (i + j)) b = some r) : execK P (N - i) K (K.vars f) (ntC P f) (partC P f i) a = some r := by
  refine cutF_ok P K _ _ j (N - i) _ a b r h ?_
  have e : N - i - j = N - (i + j) := by omega
  have e2 : restC j (partC P f i) = partC P f (i + j) := by
    unfold partC
    cases P.funcs[f]? with
    | none => cases j <;> rfl
    | some fn =>
      simp only
      cases fn.body with
      | none => cases j <;> rfl
      | some c => exact restC_add j i c
  rw [e, e2]
  exact hr
/-- It answers this. -/
def isAns (o : Option Out) (x : AV) : Bool :=
  match o with
  | some (y, _, _) => eqA 1000 y x
  | none => false
theorem isAns_some {P : Program} {K : Know} {n : Nat} {f : FuncId} {A : List AV} {x : AV} (h : isAns (callF P n K f A [] []) x = true) : ∃ n H' own', callK P n K f A [] [] = some (x, H', own') := by
  rw [callF_eq] at h
  unfold isAns at h
  split at h
  · rename_i y H' own' hc
    rw [eqA_eq 1000 _ _ h] at hc
    exact ⟨n, H', own', hc⟩
  · cases h
end Go.Proofs.YtomheegfobcijaaGreatDoor.Am
