/- The abstract machine is right, tenth part: 'append'. -/
import Derived.Test.YtnajopkaepjncaaAm13
namespace Go.Proofs.Ytnajopkaepjncaa.Am
set_option linter.unusedVariables false
set_option linter.unusedSimpArgs false
open Go.RowKit

section
variable {P : Program} {w : World}

/-- A slice or a string. -/
def SlStr (d : TypeDesc) : Prop := (∃ e, d = .slice e) ∨ d = .string

/-- Room: the new cells come behind the old ones, in place. -/
theorem app_room {t u ty e : TypeId} {i : TypeInfo} {du : TypeDesc} (ht : P.underlying t = some (.slice e)) (hu : P.underlying u = some du) (hdu : SlStr du) (hi : P.info? e = some i)
    {g n cap m : Nat} {cur : Array Value} (hg : w.heap[g]? = some (.cells cur e (0, 0))) {y : Value} {news : List Value} (hl : (Builtin.lenOf y).run P w = .ok m w) (hf : (Builtin.firstCells i.size m y).run P w = .ok news.toArray w)
    (h1 : ∀ u ∈ news, u.oneCell' = true) (hroom : n + m ≤ cap) (hfit : n * i.size + news.length ≤ cur.size) :
    (Builtin.append_ #[t, u] ty #[.slice (some ⟨g, 0, none⟩) n cap, y]).run P w =
      .ok (.slice (some ⟨g, 0, none⟩) (n + m) cap) (w.setRow g (cur.toList.take (n * i.size) ++ news ++ cur.toList.drop (n * i.size + news.length)).toArray) := by
  have hst := run_storeCells_at P g (n * i.size) e news 0 cur w hg (by simpa using hfit) h1
  simp only [Nat.add_zero] at hst
  have ha : (⟨g, 0, none⟩ : Addr).add (n * i.size) = ⟨g, n * i.size, none⟩ := by rw [add_addr, Nat.zero_add]
  have hs : sizeT P e = some i.size := by simp [sizeT, hi]
  obtain ⟨q, rfl⟩ | rfl := hdu
  all_goals simp only [Builtin.append_, List.getElem?_toArray, List.getElem?_cons_zero, List.getElem?_cons_succ, Sem.run_bind, run_underlying' ht, run_underlying' hu, Result.andThen_ok, run_sizeT hs, Sem.run_pure, Bool.false_eq_true, if_false, hl,
    Bool.not_false, if_true, if_pos hroom, hf, ha, hst]

/-- No room: all is laid anew. -/
theorem app_grow {t u ty e : TypeId} {i : TypeInfo} {z : Value} {du : TypeDesc} (ht : P.underlying t = some (.slice e)) (hu : P.underlying u = some du) (hdu : SlStr du) (hi : P.info? e = some i) (hz : i.zero = some z)
    {a : Option Addr} {n cap m : Nat} {y : Value} {olds news : List Value} (hl : (Builtin.lenOf y).run P w = .ok m w) (hf : (Builtin.firstCells i.size m y).run P w.drew = .ok news.toArray w.drew)
    (hfo : (Builtin.firstCells i.size n (.slice a n cap)).run P w.drew = .ok olds.toArray w.drew)
    (hg : cap < n + m) (h63 : n + m ≤ 140737488355328) (hby : (n + m) * i.bytes ≤ 140737488355328) :
    (Builtin.append_ #[t, u] ty #[.slice a n cap, y]).run P w =
      .ok (.slice (some ⟨w.heap.size, 0, none⟩) (n + m) (grownCap w (n + m) cap e)) (w.drew.alloc (.cells (olds ++ news ++ (Builtin.zeroCells z.cells (grownCap w (n + m) cap e - (n + m))).toList).toArray e)) := by
  have hn : ¬ (n + m ≤ cap) := by omega
  have hfit := growslice_fits (bytes := i.bytes) hg hby
  have hs : sizeT P e = some i.size := by simp [sizeT, hi]
  have harr : olds.toArray ++ news.toArray ++ Builtin.zeroCells z.cells (grownCap w (n + m) cap e - (n + m)) = (olds ++ news ++ (Builtin.zeroCells z.cells (grownCap w (n + m) cap e - (n + m))).toList).toArray := by
    apply Array.ext'; simp
  rw [← harr]
  have h63' : ¬ ((((n + m : Nat) : Int) > IntKind.i64.max) ∧ ((false = true) ∨ i.bytes = 0)) := by
    have : IntKind.i64.max = 9223372036854775807 := by decide
    rw [this]; omega
  have h48' : ¬ (Builtin.nextslicecap (n + m) cap * i.bytes > 2 ^ 48) := by omega
  have hzv : ∀ w : World, (zeroValue e).run P w = .ok z w := by
    intro w
    simp only [zeroValue, Sem.run_bind, run_typeInfo' hi, Result.andThen_ok, hz, Sem.run_pure]
  have hch : (choose (.appendCap (n + m) cap e)).run P w = .ok (grownCap w (n + m) cap e) w.drew := by
    rw [run_choose]
    simp only [Question.forced, Bool.false_eq_true, if_false]
    rfl
  obtain ⟨q, rfl⟩ | rfl := hdu
  all_goals simp only [Builtin.append_, List.getElem?_toArray, List.getElem?_cons_zero, List.getElem?_cons_succ, Sem.run_bind, run_underlying' ht, run_underlying' hu, Result.andThen_ok, run_sizeT hs, Sem.run_pure, Bool.false_eq_true, if_false, hl,
    Bool.not_false, if_true, if_neg hn]
  all_goals have hti : (typeInfo e).run P w = .ok i w := run_typeInfo' hi
  all_goals simp only [Sem.run_bind, hti, Result.andThen_ok, Sem.run_ite, Sem.run_pure, if_neg h48']
  all_goals simp only [false_or, Bool.false_eq_true] at h63' ⊢
  all_goals rw [if_neg h63']
  all_goals simp only [Result.andThen_ok, hch, run_askRoom, hfo, hf, hzv, newRow, Sem.run_bind, run_newObj, Sem.run_pure, run_typeInfo' hi]
  all_goals rfl

theorem app_none {t u ty e : TypeId} {i : TypeInfo} {du : TypeDesc} (ht : P.underlying t = some (.slice e)) (hu : P.underlying u = some du) (hdu : SlStr du) (hi : P.info? e = some i)
    {y : Value} {news : List Value} (hl : (Builtin.lenOf y).run P w = .ok 0 w) (hf : (Builtin.firstCells i.size 0 y).run P w = .ok news.toArray w) :
    (Builtin.append_ #[t, u] ty #[.slice none 0 0, y]).run P w = .ok (.slice none 0 0) w := by
  have hs : sizeT P e = some i.size := by simp [sizeT, hi]
  obtain ⟨q, rfl⟩ | rfl := hdu
  all_goals simp only [Builtin.append_, List.getElem?_toArray, List.getElem?_cons_zero, List.getElem?_cons_succ, Sem.run_bind, run_underlying' ht, run_underlying' hu, Result.andThen_ok, run_sizeT hs, Sem.run_pure, Bool.false_eq_true, if_false, hl,
    Bool.not_false, if_true, Nat.add_zero, if_pos (Nat.le_refl 0), hf]

/-- What is appended, as cells. -/
theorem tail_cells {M : Mem} {G : Gh} (hM : M = G.mem w) {e ts t : TypeId} {y : AV} {v : Value} {ys : List AV} {sz : Nat} (h : tailA P e ts t y = some ys) (r : Rep P M y v) (hts : P.underlying ts = some (.slice e)) (hs : sizeT P e = some sz) (hz : 0 < sz) :
    ∃ (du : TypeDesc) (news : List Value), P.underlying t = some du ∧ SlStr du ∧ (Builtin.lenOf v).run P w = .ok ys.length w ∧ (∀ w2 : World, w2.heap = w.heap → (Builtin.firstCells sz ys.length v).run P w2 = .ok news.toArray w2) ∧
      news.length = ys.length * sz ∧ (∀ x ∈ ys, x.cells.length = sz) ∧ (∀ j, j < news.length → Rep P M ((flat ys).getD j .undef) (news.getD j undef) ∧ (news.getD j undef).oneCell' = true) := by
  subst hM
  unfold tailA at h
  split at h
  · rename_i e' e'' ys' sp hu
    split at h
    · rename_i hc
      obtain ⟨rfl, rfl⟩ := hc
      injection h with h; subst h
      cases r with
      | lst _ _ _ a cap sz' b off c hsz hz' hall hcap ha hc hr h1 =>
        obtain rfl : sz = sz' := by rw [hs] at hsz; exact Option.some.inj hsz
        have hall' : ∀ x ∈ ys', x.cells.length = sz := fun x hx => hall x (by simp [hx])
        have hfl := flat_len _ hall'
        have hfl2 := flat_len _ hall
        have hlt : ∀ j, j < ys'.length * sz → j < (flat (ys' ++ sp)).length := by
          intro j hj
          rw [hfl2, List.length_append, Nat.add_mul]; omega
        have hget : ∀ j, j < ys'.length * sz → (flat (ys' ++ sp)).getD j .undef = (flat ys').getD j .undef := by
          intro j hj
          rw [flat_append]
          simp only [List.getD_eq_getElem?_getD]
          rw [List.getElem?_append_left (by omega)]
        refine ⟨_, (List.range (ys'.length * sz)).map c, hts, .inl ⟨_, rfl⟩, rfl, ?_, by simp, hall', ?_⟩
        · intro w2 hw2
          by_cases h0 : ys' ++ sp = []
          · have h0' : ys' = [] := (List.append_eq_nil_iff.1 h0).1
            subst h0'
            cases a <;> simp [Builtin.firstCells, loadCells, loadCellsFrom]
          · obtain rfl := ha h0
            simp only [Builtin.firstCells]
            have := run_loadCells (P := P) w2 ⟨b, off, none⟩ (ys'.length * sz) c (fun j hj => by
              rw [add_addr]
              have := pm_cell (hc j (hlt j hj))
              unfold World.cell? at this ⊢
              rw [hw2]; exact this)
            rw [this]
        · intro j hj
          simp only [List.length_map, List.length_range] at hj
          have e1 : ((List.range (ys'.length * sz)).map c).getD j undef = c j := by simp [List.getD_eq_getElem?_getD, hj]
          rw [e1, ← hget j hj]
          exact ⟨hr j (hlt j hj), h1 j (hlt j hj)⟩
    · cases h
  · rename_i e' hu
    split at h
    · rename_i hc
      subst hc
      injection h with h; subst h
      cases r
      exact ⟨_, [], hu, .inl ⟨_, rfl⟩, rfl, fun w2 _ => rfl, by simp, by simp, fun j hj => by simp at hj⟩
    · cases h
  · rename_i s hu
    split at h
    · rename_i he hs1
      injection h with h; subst h
      obtain rfl := str_inv r
      obtain rfl : sz = 1 := by rw [hs] at hs1; exact Option.some.inj hs1
      have hfl : ∀ l : List UInt8, flat (l.map fun b => AV.int .u8 b.toNat) = l.map fun b => AV.int .u8 b.toNat := by
        intro l
        induction l with
        | nil => rfl
        | cons b r ih => simp only [flat, List.map_cons, List.flatMap_cons] at ih ⊢; rw [ih]; rfl
      refine ⟨.string, Lib.strCells ⟨⟨s⟩⟩, hu, .inr rfl, ?_, ?_, ?_, ?_, ?_⟩
      · simp [Builtin.lenOf, ByteArray.size]
      · intro w2 _
        have := Lib.run_firstCells_string (P := P) w2 1 ⟨⟨s⟩⟩
        simpa [ByteArray.size] using this
      · simp [Lib.strCells]
      · intro x hx
        obtain ⟨b, _, rfl⟩ := List.mem_map.1 hx
        rfl
      · intro j hj
        have hj' : j < s.length := by simpa [Lib.strCells] using hj
        rw [hfl]
        simp only [Lib.strCells, List.getD_eq_getElem?_getD, List.getElem?_map, List.getElem?_eq_getElem hj', Option.map_some, Option.getD_some]
        exact ⟨.int _ _, rfl⟩
    · cases h
  · cases h

theorem take_getD (cur : Array Value) (k j : Nat) (cells : List Value) (h : cur.toList.take k = cells) (hj : j < k) (hk : k ≤ cur.size) : cells.getD j undef = cur.getD j undef := by
  subst h
  simp only [List.getD_eq_getElem?_getD, List.getElem?_take, if_pos hj, Array.getElem?_toList, Array.getD_eq_getD_getElem?]

def Gh.put (G : Gh) (b n : Nat) (l : Loc) : Gh := { G with lim := upd G.lim b n, owner := upd G.owner b (some l) }

/-- 'append': whatever arm Go takes, the new list is the old one and what came behind it; nothing that is read has turned. -/
theorem append_sound {G : Gh} (g : GOk G w) {ts tx ty e : TypeId} {y : AV} {v u : Value} {xs ys : List AV} {i : TypeInfo} {z : List AV} {l : Loc} (hts : P.underlying ts = some (.slice e)) (hi : P.info? e = some i) (hz0 : zeroT P e = some z) (hzl : z.length = i.size)
    (ht : tailA P e ts tx y = some ys) (ry : Rep P (G.mem w) y u) (hp : 0 < i.size) (h63 : xs.length + ys.length ≤ 140737488355328) (hby : (xs.length + ys.length) * i.bytes ≤ 140737488355328)
    {cells : List Value} (hown : w.ownsRow 0 e i.size v xs.length cells) (hol : ∀ b, v.ownBlock = some b → G.owner b = some l ∧ G.lim b = xs.length * i.size)
    (hall : ∀ x ∈ xs, x.cells.length = i.size) (hrep : ∀ j, j < cells.length → Rep P (G.mem w) ((flat xs).getD j .undef) (cells.getD j undef) ∧ (cells.getD j undef).oneCell' = true) :
    ∃ v' w' G', (Builtin.append_ #[ts, tx] ty #[v, u]).run P w = .ok v' w' ∧ Ext G w G' w' ∧ GOk G' w' ∧ Rep P (G'.mem w') (.lst e (xs ++ ys) []) v' ∧ OwnAt P G' w' l (.lst e (xs ++ ys) []) v' ∧
      (∀ b, b < w.heap.size → some b ≠ v.ownBlock → w'.heap[b]? = w.heap[b]?) ∧ G'.f = G.f ∧ G'.bs = G.bs ∧ (∀ b, G.owner b ≠ some l → b < w.heap.size → G'.owner b = G.owner b ∧ G'.lim b = G.lim b) := by
  have hs : sizeT P e = some i.size := by simp [sizeT, hi]
  obtain ⟨du, news, hu, hdu, hlen, hfc, hnl, hally, hnr⟩ := tail_cells rfl ht ry hts hs hp
  obtain ⟨zv, hzr, hzc⟩ := zero_sound (M := G.mem w) (w := w) hz0
  have hzz : i.zero = some zv := by
    simp only [zeroValue, Sem.run_bind, run_typeInfo' hi, Result.andThen_ok] at hzr
    cases hiz : i.zero with
    | none => rw [hiz] at hzr; simp at hzr
    | some q => rw [hiz] at hzr; simp at hzr; rw [hzr]
  have hall2 : ∀ x ∈ xs ++ ys, x.cells.length = i.size := by
    intro x hx; rcases List.mem_append.1 hx with h | h; exact hall x h; exact hally x h
  have hcl : cells.length = xs.length * i.size := hown.1
  have hfx := flat_len _ hall
  have hfy := flat_len _ hally
  have hone : ∀ u ∈ news, u.oneCell' = true := by
    intro q hq
    obtain ⟨j, hj, rfl⟩ := List.mem_iff_getElem.1 hq
    have := (hnr j hj).2
    simpa [List.getD_eq_getElem?_getD, List.getElem?_eq_getElem hj] using this
  -- the cells of the whole
  have hcat : ∀ j, j < (xs.length + ys.length) * i.size → Rep P (G.mem w) ((flat (xs ++ ys)).getD j .undef) ((cells ++ news).getD j undef) ∧ ((cells ++ news).getD j undef).oneCell' = true := by
    intro j hj
    rw [flat_append]
    simp only [List.getD_eq_getElem?_getD] at *
    rw [Nat.add_mul] at hj
    by_cases hlt : j < xs.length * i.size
    · rw [List.getElem?_append_left (by omega), List.getElem?_append_left (by omega)]
      exact hrep j (by omega)
    · rw [List.getElem?_append_right (by omega), List.getElem?_append_right (by omega), hfx, hcl]
      exact hnr (j - xs.length * i.size) (by omega)
  have newDone : ∀ (cs : Array Value) (cap : Nat) (w' : World), w' = w.drew.alloc (.cells cs e) → xs.length + ys.length ≤ cap → cap ≤ maxLen → cs.size = cap * i.size → (∀ j, j < (xs.length + ys.length) * i.size → cs.getD j undef = (cells ++ news).getD j undef) →
      Ext G w (G.list w.heap.size ((xs ++ ys).length * i.size) (some l)) w' ∧ GOk (G.list w.heap.size ((xs ++ ys).length * i.size) (some l)) w' ∧ Rep P ((G.list w.heap.size ((xs ++ ys).length * i.size) (some l)).mem w') (.lst e (xs ++ ys) []) (.slice (some ⟨w.heap.size, 0, none⟩) (xs ++ ys).length cap) ∧
      OwnAt P (G.list w.heap.size ((xs ++ ys).length * i.size) (some l)) w' l (.lst e (xs ++ ys) []) (.slice (some ⟨w.heap.size, 0, none⟩) (xs ++ ys).length cap) ∧
      (∀ b, b < w.heap.size → some b ≠ v.ownBlock → w'.heap[b]? = w.heap[b]?) := by
    intro cs cap w' hw' hc1 hc2 hcs hget
    have hbel : Below w.heap.size w w' := by rw [hw']; exact ((Below.refl _ _).drew).alloc (Nat.le_refl _) _
    have hnew : w'.heap[w.heap.size]? = some (.cells cs e (0, 0)) := by rw [hw']; exact heap_alloc_new w.drew _
    have hsz' : w.heap.size < w'.heap.size := by rw [hw']; simp
    refine ⟨(list_grow g hbel _ _).ext g, list_gok g hsz' _ _, ?_, ?_, fun b hb _ => hbel.block b hb⟩
    · refine list_rep g hbel hnew _ hs hp hall2 (by rw [List.length_append]; exact hc1) ?_
      intro j hj
      rw [flat_len _ hall2, List.length_append] at hj
      have h1 := Nat.mul_le_mul_right i.size hc1
      rw [hget j hj]
      exact ⟨by omega, (hcat j hj).1, (hcat j hj).2⟩
    · exact own_new g hbel hnew hs hp (by rw [List.length_append]; exact hc1) hc2 hcs
  have big1 : ∀ C, xs.length + ys.length ≤ C → (cells ++ news ++ (Builtin.zeroCells zv.cells (C - (xs.length + ys.length))).toList).toArray.size = C * i.size := by
    intro C hC
    have hzs : zv.cells.size = i.size := by rw [hzc.size, hzl]
    simp only [List.size_toArray, List.length_append, Array.length_toList, size_zeroCells, hzs, hcl, hnl, ← Nat.add_mul]
    congr 1; omega
  have big2 : ∀ C j, j < (xs.length + ys.length) * i.size → (cells ++ news ++ (Builtin.zeroCells zv.cells (C - (xs.length + ys.length))).toList).toArray.getD j undef = (cells ++ news).getD j undef := by
    intro C j hj
    have : j < (cells ++ news).length := by rw [List.length_append, hcl, hnl, ← Nat.add_mul]; exact hj
    simp only [Array.getD_eq_getD_getElem?, List.getElem?_toArray, List.getD_eq_getElem?_getD]
    rw [List.getElem?_append_left this]
  rcases hown.2 with ⟨hv, hn0⟩ | ⟨b, cap, cur, hv, _, hb, hnc, hcm, hcs, htake⟩
  · -- nil
    obtain rfl : xs = [] := List.eq_nil_of_length_eq_zero hn0
    subst hv
    by_cases h0 : ys = []
    · subst h0
      refine ⟨.slice none 0 0, w, G, app_none hts hu hdu hi hlen (hfc w rfl), Ext.refl _ _, g, ?_, ?_, fun _ _ _ => rfl, rfl, rfl, fun _ _ _ => ⟨rfl, rfl⟩⟩
      · exact .lst e [] [] none 0 i.size 0 0 (fun _ => undef) hs hp (by simp) (by simp) (fun h => absurd rfl h) (fun j hj => by simp [flat] at hj) (fun j hj => by simp [flat] at hj) (fun j hj => by simp [flat] at hj)
      · intro e' xs' hx
        injection hx with q1 q2 _
        subst q1; subst q2
        exact ⟨i.size, [], hs, hp, World.ownsRow_nil w 0 _ i.size, fun b hb => by simp [Value.ownBlock] at hb⟩
    · have hpos : 0 < ys.length := by cases ys with
        | nil => exact absurd rfl h0
        | cons _ _ => simp
      have hc0 : cells = [] := List.eq_nil_of_length_eq_zero (by simpa using hcl)
      have hrun := app_grow (ty := ty) hts hu hdu hi hzz (a := none) (n := ([] : List AV).length) (cap := 0) (olds := cells) hlen (hfc w.drew rfl) (by rw [hc0]; rfl) (by simpa using hpos) h63 hby
      have hge := grownCap_ge w (([] : List AV).length + ys.length) 0 e
      have hcm := grownCap_le_maxLen w (([] : List AV).length + ys.length) 0 e (by unfold maxLen; omega)
      obtain ⟨d1, d2, d3, d4, d5⟩ := newDone _ (grownCap w (([] : List AV).length + ys.length) 0 e) _ rfl hge hcm (big1 _ hge) (big2 _)
      rw [List.length_append] at d1 d2 d3 d4
      exact ⟨_, _, _, hrun, d1, d2, d3, d4, d5, rfl, rfl, fun b ho hb => ⟨upd_ne _ _ (by omega), upd_ne _ _ (by omega)⟩⟩
  · subst hv
    obtain ⟨ho, hl⟩ := hol b rfl
    have hblt : b < w.heap.size := (Array.getElem?_eq_some_iff.1 hb).1
    have hfo : ∀ w2 : World, w2.heap = w.heap → (Builtin.firstCells i.size xs.length (.slice (some ⟨b, 0, none⟩) xs.length cap)).run P w2 = .ok cells.toArray w2 := by
      intro w2 hw2
      refine run_firstCells_some w2 i.size xs.length _ _ _ cells hcl ?_
      intro j q hq
      have := hown.cells (g := b) rfl j q hq
      unfold World.cell? at this ⊢
      rw [hw2]; exact this
    by_cases hroom : xs.length + ys.length ≤ cap
    · have hle : (xs.length + ys.length) * i.size ≤ cap * i.size := Nat.mul_le_mul_right _ hroom
      have hfit : xs.length * i.size + news.length ≤ cur.size := by rw [hnl, ← Nat.add_mul, hcs]; exact hle
      have hrun := app_room (ty := ty) hts hu hdu hi (n := xs.length) hb hlen (hfc w rfl) hone hroom hfit
      obtain ⟨cs', hcs'⟩ : ∃ cs', cs' = (cur.toList.take (xs.length * i.size) ++ news ++ cur.toList.drop (xs.length * i.size + news.length)).toArray := ⟨_, rfl⟩
      rw [← hcs'] at hrun
      have hsz' : cs'.size = cap * i.size := by
        rw [hcs']
        simp only [List.size_toArray, List.length_append, List.length_take, List.length_drop, Array.length_toList, hcs] at hfit ⊢
        omega
      have hget : ∀ j, j < (xs.length + ys.length) * i.size → cs'[j]? = some ((cells ++ news).getD j undef) := by
        intro j hj
        have hj' : j < (cells ++ news).length := by rw [List.length_append, hcl, hnl, ← Nat.add_mul]; exact hj
        rw [hcs', htake]
        rw [List.getElem?_toArray, List.getElem?_append_left hj', List.getD_eq_getElem?_getD, List.getElem?_eq_getElem hj']; rfl
      have hnew := setRow_heap w b cur cs' e (0, 0) hb
      have hoth : ∀ k, k ≠ b → (w.setRow b cs').heap[k]? = w.heap[k]? := fun k hk => setRow_other w b k cs' hk
      have hext : Ext G w (G.put b ((xs.length + ys.length) * i.size) l) (w.setRow b cs') := by
        refine ⟨rfl, rfl, rfl, by simp, ?_, fun _ _ h => h, fun _ => Nat.le_refl _, ?_⟩
        · intro k o q hq
          by_cases hk : k = b
          · subst hk
            have hlo : o < xs.length * i.size := by
              unfold pmOf at hq; split at hq
              · rename_i h; rw [hl] at h; exact h
              · cases hq
            have hold := pm_cell hq
            have hlo' : o < cur.size := by omega
            have e1 : w.cell? ⟨k, o, none⟩ = some cur[o] := by simp [World.cell?, hb, hlo']
            rw [e1] at hold; injection hold with hold
            unfold pmOf
            have hlim : (G.put k ((xs.length + ys.length) * i.size) l).lim k = (xs.length + ys.length) * i.size := upd_same _ _ _
            rw [hlim, if_pos (by rw [Nat.add_mul]; omega)]
            have e2 : (w.setRow k cs').cell? ⟨k, o, none⟩ = cs'[o]? := by simp [World.cell?, hnew]
            rw [e2, hget o (by rw [Nat.add_mul]; omega), ← hold]
            have e3 := take_getD cur (xs.length * i.size) o cells htake hlo (by omega)
            simp only [List.getD_eq_getElem?_getD] at e3 ⊢
            rw [List.getElem?_append_left (by omega), e3]
            simp [Array.getD_eq_getD_getElem?, hlo']
          · unfold pmOf at hq ⊢
            have hlim : (G.put b ((xs.length + ys.length) * i.size) l).lim k = G.lim k := upd_ne _ _ hk
            rw [hlim]
            split at hq
            · rename_i h
              rw [if_pos h, World.cell?_of_block (hoth k hk)]; exact hq
            · cases hq
        · intro k hk hf
          have hkb : k ≠ b := by rintro rfl; exact hf (.inr (by rw [ho]; rfl))
          refine ⟨hoth k hkb, upd_ne _ _ hkb, ?_⟩
          rintro (h | h)
          · exact hf (.inl h)
          · refine hf (.inr ?_)
            change (upd G.owner b (some l) k).isSome = true at h
            rw [upd_ne _ _ hkb] at h; exact h
      have hgok : GOk (G.put b ((xs.length + ys.length) * i.size) l) (w.setRow b cs') := by
        refine ⟨?_, ?_⟩
        · intro id k hid
          obtain ⟨q1, q2, q3⟩ := g.fin id k hid
          have hkb : k ≠ b := by rintro rfl; rw [ho] at q3; cases q3
          exact ⟨by simpa using q1, (upd_ne _ _ hkb).trans q2, (upd_ne _ _ hkb).trans q3⟩
        · intro k hk
          simp only [setRow_size] at hk
          obtain ⟨q1, q2, q3⟩ := g.new k hk
          have hkb : k ≠ b := by omega
          exact ⟨(upd_ne _ _ hkb).trans q1, (upd_ne _ _ hkb).trans q2, q3⟩
      refine ⟨_, _, G.put b ((xs.length + ys.length) * i.size) l, hrun, hext, hgok, ?_, ?_, ?_, rfl, rfl, ?_⟩
      · have := Rep.lst (P := P) (M := (G.put b ((xs.length + ys.length) * i.size) l).mem (w.setRow b cs')) e (xs ++ ys) [] (some ⟨b, 0, none⟩) cap i.size b 0 (fun j => (cells ++ news).getD j undef) hs hp (by simpa using hall2) (by simpa using hroom) (fun _ => rfl)
          (by
            intro j hj
            rw [List.append_nil, flat_len _ hall2, List.length_append] at hj
            show pmOf _ _ _ _ = _
            unfold pmOf
            have hlim : (G.put b ((xs.length + ys.length) * i.size) l).lim b = (xs.length + ys.length) * i.size := upd_same _ _ _
            rw [hlim, Nat.zero_add, if_pos hj]
            have e2 : (w.setRow b cs').cell? ⟨b, j, none⟩ = cs'[j]? := by simp [World.cell?, hnew]
            rw [e2, hget j hj])
          (by
            intro j hj
            rw [List.append_nil, flat_len _ hall2, List.length_append] at hj
            rw [List.append_nil]
            exact hext.rep (hcat j hj).1)
          (by
            intro j hj
            rw [List.append_nil, flat_len _ hall2, List.length_append] at hj
            exact (hcat j hj).2)
        rw [List.length_append] at this
        exact this
      · intro e' xs' hx
        injection hx with q1 q2 _
        subst q1; subst q2
        refine ⟨i.size, cells ++ news, hs, hp, ⟨by rw [List.length_append, hcl, hnl, List.length_append, Nat.add_mul], .inr ⟨b, cap, cs', by rw [List.length_append], Nat.zero_le _, hnew, by rw [List.length_append]; exact hroom, hcm, hsz', ?_⟩⟩, ?_⟩
        · rw [hcs', htake, List.length_append, Nat.add_mul, ← hcl, ← hnl, ← List.length_append]
          exact List.take_left
        · intro k hk
          have : b = k := by simpa [Value.ownBlock] using hk
          subst this
          rw [List.length_append]
          exact ⟨upd_same _ _ _, upd_same _ _ _⟩
      · intro k hk hne
        exact hoth k (by rintro rfl; exact hne rfl)
      · intro k hk hlt
        have hkb : k ≠ b := by rintro rfl; exact hk ho
        exact ⟨upd_ne _ _ hkb, upd_ne _ _ hkb⟩
    · have hrun := app_grow (ty := ty) hts hu hdu hi hzz (a := some ⟨b, 0, none⟩) (n := xs.length) (cap := cap) (olds := cells) hlen (hfc w.drew rfl) (hfo w.drew rfl) (by omega) h63 hby
      have hge := grownCap_ge w (xs.length + ys.length) cap e
      have hcm' := grownCap_le_maxLen w (xs.length + ys.length) cap e (by unfold maxLen; omega)
      obtain ⟨d1, d2, d3, d4, d5⟩ := newDone _ (grownCap w (xs.length + ys.length) cap e) _ rfl hge hcm' (big1 _ hge) (big2 _)
      rw [List.length_append] at d1 d2 d3 d4
      exact ⟨_, _, _, hrun, d1, d2, d3, d4, d5, rfl, rfl, fun k ho' hk => ⟨upd_ne _ _ (by omega), upd_ne _ _ (by omega)⟩⟩

/-- Another's end, behind a step that turned nothing but one row. -/
theorem own_other {G G' : Gh} {w' : World} {l m : Loc} {vb : Option Nat} (hm : m ≠ l) (hvb : ∀ b, vb = some b → G.owner b = some l) (hext : Ext G w G' w') (hblk : ∀ b, b < w.heap.size → some b ≠ vb → w'.heap[b]? = w.heap[b]?)
    (hoo : ∀ b, G.owner b ≠ some l → b < w.heap.size → G'.owner b = G.owner b ∧ G'.lim b = G.lim b) {x : AV} {v : Value} (r : OwnAt P G w m x v) : OwnAt P G' w' m x v := by
  intro e xs hx
  obtain ⟨sz, cells, h1, h2, h3, h4⟩ := r e xs hx
  have hne : ∀ q, v.ownBlock = some q → some q ≠ vb := by
    intro q hq e
    have e1 := (h4 q hq).1
    rw [hvb q e.symm] at e1
    injection e1 with e1
    exact hm e1.symm
  refine ⟨sz, cells, h1, h2, h3.kept ⟨hext.os, hext.tape, hext.output, hext.size, hblk⟩ (row := vb) ?_, ?_⟩
  · cases hv : v.ownBlock with
    | none => exact .inl rfl
    | some q => exact .inr (hne q hv)
  · intro q hq
    have hlt : q < w.heap.size := by
      rcases h3.2 with ⟨rfl, _⟩ | ⟨g', cap, cur, rfl, _, hh, _⟩
      · simp [Value.ownBlock] at hq
      · have : g' = q := by simpa [Value.ownBlock] using hq
        subst this
        exact (Array.getElem?_eq_some_iff.1 hh).1
    have h5 := h4 q hq
    obtain ⟨a1, a2⟩ := hoo q (by rw [h5.1]; intro e; injection e with e; exact hm e) hlt
    exact ⟨a1.trans h5.1, a2.trans h5.2⟩
theorem heap_other {G G' : Gh} {w' : World} {l : Loc} {vb : Option Nat} {H : List (Option Blk)} (g : GOk G w) (hvb : ∀ b, vb = some b → G.owner b = some l) (hext : Ext G w G' w') (hblk : ∀ b, b < w.heap.size → some b ≠ vb → w'.heap[b]? = w.heap[b]?)
    (hf : G'.f = G.f) (hbs : G'.bs = G.bs) (r : HeapRel P G H w) : HeapRel P G' H w' where
  dom := fun id b e => r.dom id b (by rw [← hf]; exact e)
  blk := fun id b k e hk => by
    rw [hf] at e
    obtain ⟨q1, q2, q3⟩ := g.fin id b e
    obtain ⟨ds, d1, d2, d3, d4, d5⟩ := r.blk id b k e hk
    have hne : some b ≠ vb := by intro e'; have := hvb b e'.symm; rw [q3] at this; cases this
    exact ⟨ds, by rw [hblk b q1 hne]; exact d1, d2, by show ds.size = G'.bs b; rw [hbs]; exact d3, fun j hj => hext.rep (d4 j hj), d5⟩
  inj := fun i j b k l' h1 h2 => r.inj i j b k l' (by rw [← hf]; exact h1) (by rw [← hf]; exact h2)

/-- 'append' as an operation: what it leaves. -/
theorem done_append {G G' : Gh} {w' : World} {env : List (Nat × AV)} {H : List (Option Blk)} {own : List Loc} {tt : Nat → Value} {d : Nat} {vb : Option Nat} (g : GOk G w) (hH : HeapRel P G H w) (hvb : ∀ b, vb = some b → G.owner b = some (.slot d)) (hext : Ext G w G' w') (hgok : GOk G' w')
    (hblk : ∀ b, b < w.heap.size → some b ≠ vb → w'.heap[b]? = w.heap[b]?) (hf : G'.f = G.f) (hbs : G'.bs = G.bs) (hoo : ∀ b, G.owner b ≠ some (.slot d) → b < w.heap.size → G'.owner b = G.owner b ∧ G'.lim b = G.lim b) {x : AV} {v : Value} (hrep : Rep P (G'.mem w') x v) (hown : OwnAt P G' w' (.slot d) x v)
    (hs : ∀ s, s ≠ d → Loc.slot s ∈ own → OwnAt P G w (.slot s) (look env s) (tt s))
    (hc : ∀ id off b k cs, Loc.cell id off ∈ own → G.f id = some b → H[id]? = some (some k) → w.heap[b]? = some (.cells cs k.e (0, 0)) → OwnAt P G w (.cell id off) (k.cs.getD off .undef) (cs.getD off undef))
    (hdom : ∀ id off, Loc.cell id off ∈ own → Live H id) : Done P G w env tt ⟨x, H, own, true⟩ d v w' G' where
  ext := hext
  ok := hgok
  heap := heap_other g hvb hext hblk hf hbs hH
  rep := hrep
  slot := fun s hsd hm => own_other (by intro e; injection e with e; exact hsd e) hvb hext hblk hoo (hs s hsd hm)
  cell := fun id off b k cs hm hf' hk hb => by
    rw [hf] at hf'
    obtain ⟨q1, q2, q3⟩ := g.fin id b hf'
    have hne : some b ≠ vb := by intro e'; have := hvb b e'.symm; rw [q3] at this; cases this
    rw [hblk b q1 hne] at hb
    exact own_other (by intro e; cases e) hvb hext hblk hoo (hc id off b k cs hm hf' hk hb)
  gives := fun _ => hown
  dom := hdom

end
end Go.Proofs.Ytnajopkaepjncaa.Am
