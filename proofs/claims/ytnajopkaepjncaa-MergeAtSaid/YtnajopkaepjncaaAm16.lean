/- The abstract machine is right, twelfth part: every operation that is no call. -/
import Derived.Test.YtnajopkaepjncaaAm15
namespace Go.Proofs.Ytnajopkaepjncaa.Am
set_option linter.unusedVariables false
set_option linter.unusedSimpArgs false
open Go.RowKit

section
variable {P : Program} {w : World}

/-- The slots hold what the machine says. -/
def EnvRel (P : Program) (M : Mem) (env : List (Nat × AV)) (a : Act) : Prop := ∀ s, Rep P M (look env s) (a.tmps.getD s undef)
theorem EnvRel.opd {M : Mem} {env : List (Nat × AV)} {a : Act} (h : EnvRel P M env a) {x : Operand} {y : AV} (hx : evalO env x = some y) : Rep P M y (a.eval x) := by
  cases x with
  | tmp t => simp only [evalO, Option.some.injEq] at hx; subst hx; exact h t
  | const v => exact Rep.const hx
  | global g => cases hx
  | func f => simp only [evalO, Option.some.injEq] at hx; subst hx; exact .fn f [] #[] rfl (fun i hi => by simp at hi)
theorem EnvRel.ops {M : Mem} {env : List (Nat × AV)} {a : Act} (h : EnvRel P M env a) (xs : List Operand) : OpsRel P M env a.eval xs := fun x _ y hy => h.opd hy

def slotsOf (a : Act) : Nat → Value := fun s => a.tmps.getD s undef

/-- A value that is read of what is not turned. -/
theorem bytesOf_list {M : Mem} {G : Gh} (hM : M = G.mem w) {src dst e : TypeId} {xs sp : List AV} {v : Value} {s : List UInt8} (hs : P.underlying src = some (.slice e)) (he : P.underlying e = some (.int .u8)) (hd : P.underlying dst = some .string)
    (r : Rep P M (.lst e xs sp) v) (h : xs.mapM byteA = some s) : (Go.convert src dst v).run P w = .ok (.string ⟨⟨s⟩⟩) w := by
  subst hM
  have hx : ∀ (xs : List AV) (s : List UInt8), xs.mapM byteA = some s → ∃ ns : List Int, xs = ns.map (AV.int .u8) ∧ s = ns.map fun n => UInt8.ofNat n.toNat := by
    intro xs
    induction xs with
    | nil => intro s h; simp at h; subst h; exact ⟨[], rfl, rfl⟩
    | cons x r ih =>
      intro s h
      rw [List.mapM_cons] at h
      cases hb : byteA x with
      | none => simp [hb] at h
      | some b =>
        cases hr : r.mapM byteA with
        | none => simp [hb, hr] at h
        | some bs =>
          simp [hb, hr] at h; subst h
          obtain ⟨ns, h1, h2⟩ := ih bs hr
          unfold byteA at hb
          split at hb
          · rename_i n
            injection hb with hb
            exact ⟨n :: ns, by rw [h1]; rfl, by rw [h2, ← hb]; rfl⟩
          · cases hb
  obtain ⟨ns, rfl, rfl⟩ := hx xs s h
  cases r with
  | lst _ _ _ a cap sz b off c hsz hz hall hcap ha hc hr h1 =>
    by_cases h0 : ns.map (AV.int .u8) ++ sp = []
    · have h0' : ns = [] := by simpa using (List.append_eq_nil_iff.1 h0).1
      subst h0'
      cases a with
      | none => exact run_convert_bytes_nil w src e hs he _ _ dst hd
      | some ad =>
        simp only [Go.convert, Sem.run_bind, run_underlying' hs, run_underlying' hd, Result.andThen_ok, run_underlying' he]
        rfl
    · obtain rfl := ha h0
      have hfl : ∀ l : List Int, flat (l.map (AV.int .u8)) = l.map (AV.int .u8) := by
        intro l
        induction l with
        | nil => rfl
        | cons b r ih => simp only [flat, List.map_cons, List.flatMap_cons] at ih ⊢; rw [ih]; rfl
      rw [List.length_map]
      refine run_convert_bytes_arg w src e hs he b off ns.length cap ns rfl ?_ dst hd
      intro j hj
      have hj' : j < (flat (ns.map (AV.int .u8) ++ sp)).length := by rw [flat_append, List.length_append, hfl, List.length_map]; omega
      have hcell := pm_cell (hc j hj')
      have hrep := hr j hj'
      rw [flat_append, hfl] at hrep
      simp only [List.getD_eq_getElem?_getD] at hrep ⊢
      rw [List.getElem?_append_left (by rw [List.length_map]; exact hj), List.getElem?_map, List.getElem?_eq_getElem hj] at hrep
      rw [hcell, List.getElem?_eq_getElem hj]
      have := int_inv hrep
      rw [this]; rfl

theorem natA_spec {x : AV} {n : Nat} {M : Mem} {v : Value} (h : natA x = some n) (r : Rep P M x v) : ∃ k, v = .int k n := by
  unfold natA at h
  split at h
  · rename_i k q
    split at h
    · injection h with h; subst h
      have := int_inv r
      exact ⟨k, by rw [this, Int.toNat_of_nonneg (by assumption)]⟩
    · cases h
  · cases h

def isCallOp : Op → Bool
  | .call { callee := .value _, .. } => true
  | .call { callee := .invoke _ _, .. } => true
  | _ => false

theorem core_sound {G : Gh} {env : List (Nat × AV)} {H : List (Option Blk)} {own : List Loc} {a : Act} {call : CallA} {ops : List Oper} {o : Oper} {r : Res} (g : GOk G w) (hH : HeapRel P G H w) (ow : Owns P G env H own (slotsOf a) w) (he : EnvRel P (G.mem w) env a)
    (hc : isCallOp o.op = false) (h : core call P ops o env H own = some r) (d : Nat) :
    ∃ v w' G', ((execOp a.eval o).run P w = .ok (.value v) w' ∨ ((execOp a.eval o).run P w = .ok .skip w' ∧ v = undef)) ∧ Done P G w env (slotsOf a) r d v w' G' := by
  have pureCase : ∀ x, pureOp P env o.op = some x → r = ⟨x, H, own, false⟩ → ∃ v w' G', ((execOp a.eval o).run P w = .ok (.value v) w' ∨ ((execOp a.eval o).run P w = .ok .skip w' ∧ v = undef)) ∧ Done P G w env (slotsOf a) r d v w' G' := by
    intro x hx hr
    obtain ⟨v, hv, rv⟩ := pureOp_sound (w := w) hx (he.ops _)
    subst hr
    exact ⟨v, w, G, .inl hv, done_same g hH ow d rv⟩
  have hid : G.f H.length = none := by
    cases hf : G.f H.length with
    | none => rfl
    | some b => have := (hH.dom _ _ hf).lt; omega
  have newCase : ∀ (k : Blk) (cs : Array Value), CellsRep P (G.mem w) k.cs cs → Done P G w env (slotsOf a) ⟨.ptr H.length 0, H ++ [some k], own, false⟩ d (.pointer (some ⟨w.heap.size, 0, none⟩)) (w.alloc (.cells cs k.e)) (G.map H.length w.heap.size cs.size) := by
    intro k cs hcs
    have hH1 : HeapRel P G (H ++ [some k]) w := by
      refine ⟨fun i b hf => (hH.dom i b hf).append _, fun i b k hf hk => ?_, fun i j b k l h1 h2 h3 h4 n1 n2 => ?_⟩
      · have := (hH.dom i b hf).lt
        rw [List.getElem?_append_left this] at hk
        exact hH.blk i b k hf hk
      · have q1 := (hH.dom i b h1).lt
        have q2 := (hH.dom j b h2).lt
        rw [List.getElem?_append_left q1] at h3
        rw [List.getElem?_append_left q2] at h4
        exact hH.inj i j b k l h1 h2 h3 h4 n1 n2
    have ow1 : Owns P G env (H ++ [some k]) own (slotsOf a) w := ⟨ow.slot, fun i off b k cs hm hf hk hb => by
      have := (hH.dom i b hf).lt
      rw [List.getElem?_append_left this] at hk
      exact ow.cell i off b k cs hm hf hk hb, fun i off hm => (ow.dom i off hm).append _⟩
    exact done_new (xs := k.cs) (e := k.e) g hH1 ow1 hid hcs (by rw [List.getElem?_append_right (Nat.le_refl _)]; simp) (fun off hm => by have := (ow.dom _ off hm).lt; omega) d
  obtain ⟨dst, op, ty, pos, after, guard⟩ := o
  simp only at hc pureCase
  unfold core at h
  simp only at h
  split at h
  case h_1 v =>
    injection h with h
    by_cases hb : (owns own (.slot v) && appDst ops dst) = true
    · rw [hb] at h; simp only [cond_true] at h; subst h
      rw [Bool.and_eq_true, owns_iff] at hb
      exact ⟨_, _, _, .inl rfl, done_slot g hH ow v d hb.1 (he v)⟩
    · have hb' : (owns own (.slot v) && appDst ops dst) = false := by simpa using hb
      rw [hb'] at h; simp only [cond_false] at h; subst h
      exact ⟨_, _, _, .inl rfl, done_same g hH ow d (he v)⟩
  case h_2 t ad =>
    split at h
    · rename_i p hp
      split at h
      · rename_i x hx
        have rp := he.opd hp
        obtain ⟨u, hu, ru, hcell⟩ := load_sound hx rp (fun id off b k _ hf hk => hH.blk id b k hf hk)
        have hrun : (execOp a.eval { dst := dst, op := .load t ad, type := ty, pos := pos, after := after, guard := guard }).run P w = .ok (.value u) w := by
          simp only [execOp, Sem.run_bind, hu, Result.andThen_ok, Sem.run_pure]
        split at h
        · rename_i id off
          injection h with h
          by_cases hb : (owns own (.cell id off) && appDst ops dst && (sizeT P t == some 1) && (isAggT P t == some false)) = true
          · rw [hb] at h; simp only [cond_true] at h; subst h
            simp only [Bool.and_eq_true, owns_iff, beq_iff_eq] at hb
            obtain ⟨⟨⟨hb1, hb2⟩, hb3⟩, hb4⟩ := hb
            generalize hav : a.eval ad = av at rp
            cases rp with
            | ptr _ _ b hf =>
              have hf' : G.f id = some b := hf
              unfold loadA at hx
              rw [hb3] at hx
              simp only at hx
              split at hx
              · rename_i cs hcs
                unfold readCells at hcs
                split at hcs
                · rename_i k hk
                  split at hcs
                  · rename_i hle
                    injection hcs with hcs
                    obtain ⟨ds, hd, hsz, hbs, hrep, hone⟩ := hH.blk id b k hf' hk
                    have hoff : off < k.cs.length := by omega
                    have hxe : k.cs.getD off .undef = x := by
                      have hcs1 : cs = [k.cs.getD off .undef] := by
                        rw [← hcs, List.getD_eq_getElem?_getD, List.getElem?_eq_getElem hoff]
                        apply List.ext_getElem?
                        intro i
                        cases i with
                        | zero => simp [List.getElem?_take, List.getElem?_drop, List.getElem?_eq_getElem hoff]
                        | succ i => simp [List.getElem?_take]
                      rw [hcs1] at hx
                      unfold ofCells at hx
                      rw [hb4] at hx
                      simp only at hx
                      split at hx
                      · injection hx
                      · cases hx
                    have hue : ds.getD off undef = u := by
                      have h1 := hcell id off b rfl hf' hb3 hb4
                      have hod : off < ds.size := by omega
                      have h2 : w.cell? ⟨b, off, none⟩ = some ds[off] := by simp [World.cell?, hd, hod]
                      rw [h2] at h1; injection h1 with h1
                      rw [← h1]; simp [Array.getD_eq_getD_getElem?, hod]
                    exact ⟨u, _, _, .inl hrun, done_cell g hH ow id off d hb1 hf' hk hd hxe hue ru⟩
                  · cases hcs
                · cases hcs
              · cases hx
          · have hb' : (owns own (.cell id off) && appDst ops dst && (sizeT P t == some 1) && (isAggT P t == some false)) = false := by simpa using hb
            rw [hb'] at h; simp only [cond_false] at h; subst h
            exact ⟨u, _, _, .inl hrun, done_same g hH ow d ru⟩
        · injection h with h; subst h
          exact ⟨u, _, _, .inl hrun, done_same g hH ow d ru⟩
      · cases h
    · cases h
  case h_3 e =>
    split at h
    · rename_i z hz
      injection h with h; subst h
      obtain ⟨zv, hzr, hzc⟩ := zero_sound (M := G.mem w) (w := w) hz
      refine ⟨_, _, _, .inl ?_, newCase ⟨e, z⟩ zv.cells hzc⟩
      simp only [execOp, Instr.alloc, Sem.run_bind, hzr, Result.andThen_ok, newVar, newRow, run_newObj, Sem.run_pure]
      rfl
    · cases h
  case h_4 e x =>
    split at h
    · rename_i y hy
      split at h
      · rename_i hpos
        injection h with h; subst h
        have ry := he.opd hy
        refine ⟨_, _, _, .inl ?_, newCase ⟨e, y.cells⟩ (a.eval x).cells (cells_of ry hpos)⟩
        simp only [execOp, Instr.box, Sem.run_bind, Result.andThen_ok, newVar, newRow, run_newObj, Sem.run_pure]
        rfl
      · cases h
    · cases h
  case h_5 t ad x =>
    split at h
    · rename_i id off v hp hv
      split at h
      · rename_i H' hs
        injection h with h
        have := store_sound (xo := x) (d := d) g hH ow hs (he.opd hp) (he.opd hv) (by
          intro s hs'; subst hs'
          simp only [evalO, Option.some.injEq] at hv
          exact ⟨hv.symm, rfl⟩)
        obtain ⟨w', G', hrun, hd⟩ := this
        subst h
        refine ⟨undef, w', G', .inr ⟨?_, rfl⟩, ?_⟩
        · simp only [execOp, Sem.run_bind, hrun, Result.andThen_ok, Sem.run_pure]
        · exact hd
      · cases h
    · cases h
  case h_6 x =>
    split at h
    · rename_i v hv
      split at h
      · rename_i s
        injection h with h
        simp only [evalO, Option.some.injEq] at hv
        subst hv
        by_cases hb : owns own (.slot s) = true
        · rw [hb] at h; simp only [cond_true] at h; subst h
          exact ⟨_, _, _, .inl rfl, done_slot g hH ow s d (owns_iff.1 hb) (he s)⟩
        · have hb' : owns own (.slot s) = false := by simpa using hb
          rw [hb'] at h; simp only [cond_false] at h; subst h
          exact ⟨_, _, _, .inl rfl, done_same g hH ow d (he s)⟩
      · injection h with h; subst h
        exact ⟨_, _, _, .inl rfl, done_same g hH ow d (he.opd hv)⟩
    · cases h
  case h_7 t len parts =>
    split at h
    · rename_i e ps hu hps
      split at h
      · rename_i sz z hs hz
        split at h
        · rename_i hcond
          split at h
          · rename_i cs hf
            split at h
            · rename_i xs hx
              injection h with h; subst h
              have hp := evalParts_rel parts.toList ps hps (he.ops _)
              obtain ⟨v, w', G', hrun, hm⟩ := buildSlice_sound (l := .slot d) g hu hs hz hcond.1 hcond.2.1 hcond.2.2 hf hx (qs := parts.map fun (i, x) => (i, a.eval x)) (by simpa using hp)
              exact ⟨v, w', G', .inl (by simp only [execOp, Sem.run_bind, hrun, Result.andThen_ok, Sem.run_pure]), done_made g hH ow hm true⟩
            · cases h
          · cases h
        · cases h
      · cases h
    · cases h
  case h_8 t len cap =>
    split at h
    · rename_i e n c hu hn hcp
      split at h
      · rename_i n' c' i z hn' hc' hi hz
        split at h
        · rename_i hcond
          split at h
          · rename_i x hx
            injection h with h; subst h
            obtain ⟨k1, e1⟩ := natA_spec hn' (he.opd hn)
            obtain ⟨k2, e2⟩ := natA_spec hc' (he.opd hcp)
            obtain ⟨v, w', G', hrun, hm⟩ := makeSlice_sound (l := .slot d) (k1 := k1) (k2 := k2) g hu hi hz hcond.1 hcond.2.1 hcond.2.2.1 hcond.2.2.2.1 hcond.2.2.2.2 hx
            exact ⟨v, w', G', .inl (by simp only [execOp, e1, e2, Sem.run_bind, hrun, Result.andThen_ok, Sem.run_pure]), done_made g hH ow hm true⟩
          · cases h
        · cases h
      · cases h
    · cases h
  case h_9 src d' x =>
    have fin : ∀ y z, evalO env x = some y → (Go.convert src d' (a.eval x)).run P w = .ok z w → ∀ q, Rep P (G.mem w) q z → r = ⟨q, H, own, false⟩ → ∃ v w' G', ((execOp a.eval { dst := dst, op := .convert src d' x, type := ty, pos := pos, after := after, guard := guard }).run P w = .ok (.value v) w' ∨ ((execOp a.eval { dst := dst, op := .convert src d' x, type := ty, pos := pos, after := after, guard := guard }).run P w = .ok .skip w' ∧ v = undef)) ∧ Done P G w env (slotsOf a) r d v w' G' := by
      intro y z hy hz q rq hr
      subst hr
      exact ⟨z, w, G, .inl (by simp only [execOp, Sem.run_bind, hz, Result.andThen_ok, Sem.run_pure]), done_same g hH ow d rq⟩
    split at h
    · rename_i e s hus hud hx
      split at h
      · rename_i hue hsz
        injection h with h; subst h
        have ev := str_inv (he.opd hx)
        have hrun := Lib.run_convert_string_bytes (P := P) w src d' e ⟨⟨s⟩⟩ hus hud hue
        have hbel := Lib.bytesWorld_below w e ⟨⟨s⟩⟩
        have hnew := Lib.bytesWorld_at_new w e ⟨⟨s⟩⟩
        have hsize := Lib.bytesWorld_size w e ⟨⟨s⟩⟩
        have hfl : ∀ l : List UInt8, flat (l.map fun b => AV.int .u8 b.toNat) = l.map fun b => AV.int .u8 b.toNat := by
          intro l
          induction l with
          | nil => rfl
          | cons b r ih => simp only [flat, List.map_cons, List.flatMap_cons] at ih ⊢; rw [ih]; rfl
        have hlen : (s.map fun b => AV.int .u8 (b.toNat : Int)).length = s.length := by simp
        have hall : ∀ x ∈ s.map (fun b => AV.int .u8 (b.toNat : Int)), x.cells.length = 1 := by
          intro x hx; obtain ⟨b, _, rfl⟩ := List.mem_map.1 hx; rfl
        have hbs : ByteArray.size ⟨⟨s⟩⟩ = s.length := by simp [ByteArray.size]
        have hm : Made P G w (.lst e (s.map fun b => .int .u8 b.toNat) []) (.slice (some ⟨w.heap.size, 0, none⟩) s.length (grownCap w s.length 0 e)) (Lib.bytesWorld w e ⟨⟨s⟩⟩) (G.list w.heap.size (s.length * 1) none) (.slot d) ∨ True := .inr trivial
        have hrep := list_rep (P := P) g hbel hnew (e := e) (xs := s.map fun b => AV.int .u8 b.toNat) (cap := grownCap w s.length 0 e) none hsz (by omega) hall (by rw [hlen]; exact grownCap_ge w s.length 0 e) (by
          intro j hj
          rw [hfl, hlen] at hj
          have hcell := Lib.bytesWorld_cell w e ⟨⟨s⟩⟩ j (by rw [hbs]; exact hj)
          simp only [World.cell?, hnew] at hcell
          have hjs : j < (Lib.bytesCells w e ⟨⟨s⟩⟩).size := by
            rcases Nat.lt_or_ge j (Lib.bytesCells w e ⟨⟨s⟩⟩).size with h' | h'
            · exact h'
            · simp [Array.getElem?_eq_none h'] at hcell
          have e1 : (Lib.bytesCells w e ⟨⟨s⟩⟩).getD j undef = .int .u8 (s.getD j 0).toNat := by
            simp only [Option.isSome_none, Bool.false_eq_true, if_false] at hcell
            rw [Array.getD_eq_getD_getElem?, hcell]; rfl
          rw [hfl, e1]
          refine ⟨hjs, ?_, rfl⟩
          simp only [List.getD_eq_getElem?_getD, List.getElem?_map, List.getElem?_eq_getElem hj, Option.map_some, Option.getD_some]
          exact .int _ _)
        rw [hlen] at hrep
        rw [hbs] at hrun
        have gr := list_grow g hbel (s.length * 1) none
        have hf : ∀ id b, (G.list w.heap.size (s.length * 1) none).f id = some b → G.f id = some b := fun _ _ h => h
        have o' := owns_grow gr g hf ow
        refine ⟨_, _, G.list w.heap.size (s.length * 1) none, .inl (by simp only [execOp, ev, Sem.run_bind, hrun, Result.andThen_ok, Sem.run_pure]), ⟨gr.ext g, list_gok g (by omega) _ _, hH.grow gr g hf, hrep, fun s _ hs => o'.slot s hs, o'.cell, fun h => (by cases h), o'.dom⟩⟩
      · cases h
    · rename_i e e' xs sp hus hud hx
      split at h
      · rename_i hue
        split at h
        · rename_i hee
          subst hee
          unfold plainRes at h
          cases hm : xs.mapM byteA with
          | none => rw [hm] at h; cases h
          | some s =>
            rw [hm] at h; simp only [Option.map_some, Option.some.injEq] at h
            exact fin _ _ hx (bytesOf_list rfl hus hue hud (he.opd hx) hm) _ (.str s) h.symm
        · cases h
      · cases h
    · rename_i e hus hud hx
      split at h
      · rename_i hue
        injection h with h
        have r0 := he.opd hx
        generalize hv : a.eval x = v at r0
        cases r0
        refine fin _ _ hx ?_ _ (.str []) h.symm
        rw [hv]
        exact run_convert_bytes_nil w src e hus hue 0 0 d' hud
      · cases h
    · rename_i y hx _ _ _
      unfold plainRes at h
      cases hm : convA P src d' y with
      | none => rw [hm] at h; cases h
      | some q =>
        rw [hm] at h; simp only [Option.map_some, Option.some.injEq] at h
        obtain ⟨z, hz, rz⟩ := conv_sound (w := w) hm (he.opd hx)
        exact fin _ _ hx hz _ rz h.symm
    · cases h
  case h_10 f args => cases hc
  case h_11 rv name args => cases hc
  case h_12 args argTypes =>
    split at h
    · rename_i s x ts tx hargs htys
      have ea : args = #[s, x] := by apply Array.ext'; simpa using hargs
      have et : argTypes = #[ts, tx] := by apply Array.ext'; simpa using htys
      subst ea; subst et
      have key : ∀ v w', (Builtin.append_ #[ts, tx] ty #[a.eval s, a.eval x]).run P w = .ok v w' → (execOp a.eval { dst := dst, op := .call { callee := .builtin .append, args := #[s, x], argTypes := #[ts, tx] }, type := ty, pos := pos, after := after, guard := guard }).run P w = .ok (.value v) w' := by
        intro v w' hl
        simp only [execOp, resolve, Sem.run_bind, Sem.run_pure, Result.andThen_ok, invoke, builtin, List.map_toArray, List.map_cons, List.map_nil, hl]
      unfold appendA at h
      split at h
      · rename_i e av bv hts hs hx
        split at h
        · rename_i ys i z hty hi hz
          have hsz : sizeT P e = some i.size := by simp [sizeT, hi]
          split at h
          · -- onto nil
            split at h
            · rename_i hcond
              injection h with h; subst h
              have r0 := he.opd hs
              generalize hsv : a.eval s = sv at r0 key
              cases r0
              obtain ⟨v', w', G', hrun, hext, hgok, hrep, hown, hblk, hf, hbs, hoo⟩ := append_sound (ty := ty) (xs := []) (l := .slot d) g hts hi hz hcond.2.2.2 hty (he.opd hx) hcond.2.2.1 (by simpa using hcond.2.1) (by simpa using hcond.1) (cells := []) (v := .slice none 0 0) (World.ownsRow_nil w 0 e i.size) (fun b hb => by simp [Value.ownBlock] at hb) (by simp) (fun j hj => by simp at hj)
              exact ⟨v', w', G', .inl (key _ _ hrun), done_append (vb := none) g hH (fun b e => by cases e) hext hgok (fun b hlt _ => hblk b hlt (by simp [Value.ownBlock])) hf hbs hoo hrep hown (fun s _ hm => ow.slot s hm) ow.cell ow.dom⟩
            · cases h
          · -- onto a list whose end is one's own
            rename_i e' xs
            split at h
            · rename_i t
              split at h
              · rename_i hcond
                obtain ⟨c1, c2, c3, c4, c5, c6⟩ := hcond
                subst c2
                injection h with h; subst h
                have r0 := he.opd hs
                simp only [evalO, Option.some.injEq] at hs
                have ho := ow.slot t (owns_iff.1 c1)
                rw [hs] at ho
                have ho' : OwnAt P (G.ren (.slot t) (.slot d)) w (.slot d) (.lst e' xs []) (slotsOf a t) := ren_own ho _
                obtain ⟨sz, cells, h1, h2, h3, h4⟩ := ho' e' xs rfl
                obtain rfl : sz = i.size := by rw [hsz] at h1; exact (Option.some.inj h1).symm
                have hev : a.eval (.tmp t) = slotsOf a t := rfl
                have hxl : (∀ x ∈ xs, x.cells.length = i.size) ∧ (∀ j, j < cells.length → Rep P (G.mem w) ((flat xs).getD j .undef) (cells.getD j undef) ∧ (cells.getD j undef).oneCell' = true) := by
                  rw [hev] at r0
                  generalize hsv : slotsOf a t = sv at r0 h3
                  cases r0 with
                  | lst _ _ _ ad cap sz b off c hsz' hz hall hcap ha hc' hr h1' =>
                    obtain rfl : i.size = sz := by rw [hsz] at hsz'; exact Option.some.inj hsz'
                    simp only [List.append_nil] at hall ha hc' hr h1'
                    refine ⟨hall, ?_⟩
                    intro j hj
                    have hfl := flat_len _ hall
                    have hcl : cells.length = xs.length * i.size := h3.1
                    have hjf : j < (flat xs).length := by omega
                    have hne : xs ≠ [] := by
                      intro e0
                      rw [e0] at hcl
                      simp at hcl
                      rw [hcl] at hj
                      simp at hj
                    obtain rfl := ha hne
                    rcases h3.2 with ⟨hv, _⟩ | ⟨b', cap', cur', hv, _, hb', hnc, hcm, hcs, htake⟩
                    · cases hv
                    · injection hv with q1 q2 q3
                      injection q1 with q1
                      injection q1 with q1 q4
                      subst q1; subst q4
                      have hcell := pm_cell (hc' j hjf)
                      have hjc : j < cur'.size := by
                        have := Nat.mul_le_mul_right i.size hnc
                        omega
                      have e1 : w.cell? ⟨b, 0 + j, none⟩ = some cur'[j] := by simp [World.cell?, hb', hjc]
                      rw [e1] at hcell; injection hcell with hcell
                      have e2 := take_getD cur' (xs.length * i.size) j cells htake (by omega) (by have := Nat.mul_le_mul_right i.size hnc; omega)
                      have e3 : cur'.getD j undef = c j := by rw [← hcell]; simp [Array.getD_eq_getD_getElem?, hjc]
                      rw [e2, e3]
                      exact ⟨hr j hjf, h1' j hjf⟩
                obtain ⟨v', w', G', hrun, hext, hgok, hrep, hown, hblk, hf, hbs, hoo⟩ := append_sound (ty := ty) (l := .slot d) (ren_gok g (.slot t) (.slot d)) hts hi hz c6 hty (he.opd hx) c5 c4 c3 h3 h4 hxl.1 hxl.2
                refine ⟨v', w', G', .inl (key _ _ hrun), ?_⟩
                have dn := done_append (env := env) (own := drop own (.slot t)) (tt := slotsOf a) (vb := (slotsOf a t).ownBlock) (ren_gok g (.slot t) (.slot d)) (ren_heap hH (.slot t) (.slot d)) (fun b e => (h4 b e).1) hext hgok hblk hf hbs hoo hrep hown
                  (fun s _ hm => ren_own_ne (ow.slot s (mem_drop.1 hm).1) (mem_drop.1 hm).2 _) (fun id off b k cs hm hf' hk hb => ren_own_ne (ow.cell id off b k cs (mem_drop.1 hm).1 hf' hk hb) (mem_drop.1 hm).2 _) (fun id off hm => ow.dom id off (mem_drop.1 hm).1)
                exact ⟨(ren_ext G _ _).trans dn.ext, dn.ok, dn.heap, dn.rep, dn.slot, dn.cell, dn.gives, dn.dom⟩
              · cases h
            · cases h
          · cases h
        · cases h
      · cases h
    · cases h
  case h_13 =>
    cases hp : pureOp P env op with
    | none => rw [hp] at h; cases h
    | some x => rw [hp] at h; injection h with h; exact pureCase x hp h.symm

theorem newAt_sound {G : Gh} {env : List (Nat × AV)} {H : List (Option Blk)} {own : List Loc} {a : Act} {o : Oper} {r : Res} {id : Nat} (g : GOk G w) (hH : HeapRel P G H w) (ow : Owns P G env H own (slotsOf a) w) (he : EnvRel P (G.mem w) env a)
    (h : newAt P o env H own id = some r) (d : Nat) :
    ∃ v w' G', (execOp a.eval o).run P w = .ok (.value v) w' ∧ Done P G w env (slotsOf a) r d v w' G' := by
  unfold newAt at h
  split at h
  case h_2 => cases h
  rename_i hhole
  have hlt : id < H.length := (List.getElem?_eq_some_iff.1 hhole).1
  have notLive : ¬ Live H id := by rintro ⟨k, hk⟩; rw [hhole] at hk; cases hk
  have hid : G.f id = none := by
    cases hf : G.f id with
    | none => rfl
    | some b => exact absurd (hH.dom _ _ hf) notLive
  have hne : ∀ i b, G.f i = some b → i ≠ id := fun i b hf e => by rw [e, hid] at hf; cases hf
  have newCase : ∀ (k : Blk) (cs : Array Value), CellsRep P (G.mem w) k.cs cs → Done P G w env (slotsOf a) ⟨.ptr id 0, H.set id (some k), own, false⟩ d (.pointer (some ⟨w.heap.size, 0, none⟩)) (w.alloc (.cells cs k.e)) (G.map id w.heap.size cs.size) := by
    intro k cs hcs
    have hH1 : HeapRel P G (H.set id (some k)) w := by
      refine ⟨fun i b hf => (hH.dom i b hf).set _ _, fun i b k' hf hk => ?_, fun i j b k' l h1 h2 h3 h4 n1 n2 => ?_⟩
      · rw [List.getElem?_set_ne (hne i b hf).symm] at hk
        exact hH.blk i b k' hf hk
      · rw [List.getElem?_set_ne (hne i b h1).symm] at h3
        rw [List.getElem?_set_ne (hne j b h2).symm] at h4
        exact hH.inj i j b k' l h1 h2 h3 h4 n1 n2
    have ow1 : Owns P G env (H.set id (some k)) own (slotsOf a) w := ⟨ow.slot, fun i off b k' cs hm hf hk hb => by
      rw [List.getElem?_set_ne (hne i b hf).symm] at hk
      exact ow.cell i off b k' cs hm hf hk hb, fun i off hm => (ow.dom i off hm).set _ _⟩
    exact done_new (xs := k.cs) (e := k.e) g hH1 ow1 hid hcs (by rw [List.getElem?_set_self hlt]) (fun off hm => notLive (ow.dom _ off hm)) d
  obtain ⟨dst, op, ty, pos, after, guard⟩ := o
  simp only at h
  split at h
  · rename_i e
    split at h
    · rename_i z hz
      injection h with h; subst h
      obtain ⟨zv, hzr, hzc⟩ := zero_sound (M := G.mem w) (w := w) hz
      refine ⟨_, _, _, ?_, newCase ⟨e, z⟩ zv.cells hzc⟩
      simp only [execOp, Instr.alloc, Sem.run_bind, hzr, Result.andThen_ok, newVar, newRow, run_newObj, Sem.run_pure]
      rfl
    · cases h
  · rename_i e x
    split at h
    · rename_i y hy
      split at h
      · rename_i hpos
        injection h with h; subst h
        have ry := he.opd hy
        refine ⟨_, _, _, ?_, newCase ⟨e, y.cells⟩ (a.eval x).cells (cells_of ry hpos)⟩
        simp only [execOp, Instr.box, Sem.run_bind, Result.andThen_ok, newVar, newRow, run_newObj, Sem.run_pure]
        rfl
      · cases h
    · cases h
  · cases h

end
end Go.Proofs.Ytnajopkaepjncaa.Am
