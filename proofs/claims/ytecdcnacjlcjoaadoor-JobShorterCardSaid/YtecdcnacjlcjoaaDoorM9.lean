/- Job: what the rows' conditions give a walk: what the variables hold, and what comes in. -/
import Derived.Test.YtecdcnacjlcjoaaDoorRows
import Derived.Test.YtecdcnacjlcjoaaDoorM5
import Derived.WalkKit
import Derived.ProofKit
import Derived.OpenShut
import Derived.ShutString
import Derived.ChangeOld
import Derived.Below
import Derived.SizedLaws
import Derived.LaidMore
import Derived.LaidSub
import Derived.Lay
import Derived.SevenTiedAt
import Derived.Stop.Joined
import Derived.Test.YtecdcnacjlcjoaaDoorM6
import Derived.Test.YtecdcnacjlcjoaaDoorM7
import Derived.Test.YtecdcnacjlcjoaaDoorM8
/- Job: what the rows' conditions give a walk: what the variables hold, and what comes in. -/
namespace Go.Proofs.YtecdcnacjlcjoaaDoor.Job
open Go.ChangeShapes Go.WideShapes Go.ChangeAt Go.RowKit
open Am
set_option linter.unusedVariables false
set_option linter.unusedSimpArgs false

theorem own : ownKnob Tryd.prog.godebug = none := by kernel_rfl
theorem laidOut : laidOutB Tryd.prog = true := by kernel_rfl

section
variable {H : Type} {enc : TypeId × Value → H}
/-- A row's statement by a walk that may ask how the memory is laid out, too. -/
theorem returns_shaped {a : Assume} {C : Checked} {os : Os} {f : FuncId} {fn : Func} {s : ChangeSpec} {conds : List PathCond} {apart fresh handsOn again : Bool} {X : World → Array Value → Prop}
    (hX : ∀ (w w' : World) (args : Array Value), w.heap = w'.heap → X w args → X w' args)
    (own : ownKnob C.prog.godebug = none) (started : os.Started) (noInit : C.prog.inits.idxOf? f = none) (hfn : C.prog.funcs[f]? = some fn)
    (witness : ∃ (w : World) (tape : Tape) (i : Input), w.os = os ∧ (w.forCall tape i).Shaped C.prog ∧ i.vars = [] ∧ Input.okWide C.prog (w.forCall tape i) .any w.heap.size f i ∧
      ((s.pre enc C.prog fn conds apart (w.forCall tape i).memory i.args ∧ X (w.forCall tape i).memory i.args) ∧ sizedMet enc C.prog fn (OpenSpec.ofChange s) apart (w.forCall tape i).memory i.args) ∧ a.holds C.prog (lone (Frame.enter C.prog f i.args .normal) [] (w.forCall tape i)))
    (contract : ∀ (W : World) (base : Nat) (args : Array Value) (ds gs : List (DataW H)) (before : List MemPlace), W.ShapedOpen C.prog →
      (∀ (j : Nat) t v, fn.params[j]? = some t → args[j]? = some v → Value.okWide C.prog W .any base t v) →
      DataW.Whole enc C.prog fn.params.toList s.vars apart W args.toList ds gs before →
      X W args →
      Calls C.prog f args W fun e W' => ∃ v, e = .returned v ∧ s.post enc C.prog fn apart fresh handsOn again W args v W') :
    ReturnsInHanded a C os f .any (fun w args => (s.pre enc C.prog fn conds apart w args ∧ X w args) ∧ sizedMet enc C.prog fn (OpenSpec.ofChange s) apart w args) (s.post enc C.prog fn apart fresh handsOn again) := by
  refine returnsInHanded_of_calls own started noInit witness ?_
  intro w tape i _ hs _ hok hpre _
  obtain ⟨_, _, _, fn', hfn', _, _, _, _, hval⟩ := hok
  obtain rfl : fn' = fn := Option.some.inj (hfn'.symm.trans hfn)
  obtain ⟨⟨⟨ds, gs, before, hw, _⟩, hx⟩, _⟩ := hpre
  refine (contract (w.forCall tape i) w.heap.size i.args ds gs before hs hval (DataW.Whole.of_heap (w' := w.forCall tape i) (by rfl) hw) (hX _ _ _ (by rfl) hx)).mono fun e W' ⟨v, he, hp⟩ => ?_
  subst he
  exact ChangeSpec.post_blind hp
end

/-! ### the variables -/
abbrev laidL : List (String × DataW Unit) := Rows.jobTextRow.laid
set_option maxRecDepth 100000 in
theorem iface_of {P : Program} {w : World} {sp : Nat → Bool} {fuel : Nat} {t : TypeId} {ms : Array (String × TypeId)} {cs : List Value} {nm : String} {x : DataW Unit} {p : List MemPlace} (ht : P.underlying t = some (.interface ms)) (h : DataW.trod (fun _ => ()) P w 0 sp false fuel t cs = some (.iface nm x, p)) : ∃ u v, cs = [.iface u v] := by
  cases fuel with
  | zero => simp [DataW.trod] at h
  | succ m =>
    unfold DataW.trod at h
    rw [ht] at h
    split at h <;> simp_all
set_option maxRecDepth 100000 in
theorem u64s_of {w : World} {fuel : Nat} {cs : List Value} {zs : List Int} {p : List MemPlace} (h : DataW.trod (fun _ => ()) Tryd.prog w 0 (fun _ => true) false fuel 107 cs = some (.agg (zs.map fun z => .lit (.int .u64 z)), p)) : cs = zs.map fun z => Value.int .u64 z := by
  obtain ⟨xs, m, _, ex, hl, hn, hel⟩ := DataW.trod_array Tryd.underlying107 h
  have c1 : Tryd.prog.cellsOf 84 = 1 := by kernel_rfl
  have c2 : Tryd.prog.cellsOf 107 = 20 := by kernel_rfl
  rw [c2] at hl
  injection ex with ex _
  injection ex with ex
  have hz : zs.length = 20 := by have := congrArg List.length ex; rw [List.length_map, List.length_map] at this; omega
  refine List.ext_getElem? fun i => ?_
  by_cases hi : i < 20
  · have hE := hel i hi
    rw [c1, Nat.mul_one, List.getElem?_eq_getElem (by omega)] at hE
    obtain ⟨z, e1, e2, _⟩ := DataW.trod_int Tryd.underlying84 hE
    have e4 : (xs.map (·.1))[i]? = (zs.map fun z => (DataW.lit (.int .u64 z) : DataW Unit))[i]? := by rw [ex]
    rw [List.getElem?_map, List.getElem?_map, List.getElem?_eq_getElem (by omega : i < xs.length), List.getElem?_eq_getElem (by omega : i < zs.length), e2] at e4
    simp only [Option.map_some, Option.some.injEq, DataW.lit.injEq, Lit.int.injEq, true_and] at e4
    have h0 : cs[i]? = some (.int .u64 z) := by
      have h0 : ((cs.drop i).take 1)[0]? = some (.int .u64 z) := by rw [e1]; rfl
      simpa using h0
    rw [h0, List.getElem?_map, List.getElem?_eq_getElem (by omega : i < zs.length), e4]
    rfl
  · rw [List.getElem?_eq_none (by omega), List.getElem?_eq_none (by rw [List.length_map]; omega)]
set_option maxRecDepth 100000 in
theorem glob_at {W : World} (hS : W.ShapedOpen Tryd.prog) (hL : laidMetH Tryd.prog laidL W) : GlobAt W := by
  have hgl : Tryd.prog.globals.size = 8 := by kernel_rfl
  have h70 : (((begin Tryd.prog (fun _ _ => 0) default).world.heap[7]?).bind Obj.row?).isSome = true := by kernel_rfl
  obtain ⟨⟨z7, t7⟩, h71⟩ := Option.isSome_iff_exists.1 h70
  obtain ⟨c7, h7, _⟩ := hS.1 7 z7 t7 (by omega) h71
  obtain ⟨c1, h1, hs1, hok1⟩ := hS.1 1 #[.int .i64 0] 3 (by omega) (by kernel_rfl)
  have hL2 := hL.filter (fun x => x.1 == "internal/strconv.uint64pow10" || x.1 == "strconv.ErrRange" || x.1 == "strconv.ErrSyntax")
  rw [MakeChecks.laidMetH_plain _ _ _ (by kernel_rfl)] at hL2
  obtain ⟨ps, ⟨g0, t0, cs0, f0, p0, q0, hg0, ht0, hv0, hd0, ⟨g5, t5, cs5, f5, p5, q5, hg5, ht5, hv5, hd5, ⟨g4, t4, cs4, f4, p4, q4, hg4, ht4, hv4, hd4, _, _⟩, _⟩, _⟩, _, _⟩ := hL2
  obtain rfl := Option.some.inj ((show Tryd.prog.globalNamed "internal/strconv.uint64pow10" = some 0 by kernel_rfl).symm.trans hg0)
  obtain rfl := Option.some.inj ((show Tryd.prog.globalNamed "strconv.ErrRange" = some 5 by kernel_rfl).symm.trans hg5)
  obtain rfl := Option.some.inj ((show Tryd.prog.globalNamed "strconv.ErrSyntax" = some 4 by kernel_rfl).symm.trans hg4)
  obtain rfl := Option.some.inj ((show (Tryd.prog.globals[0]?).map (·.type) = some 107 by kernel_rfl).symm.trans ht0)
  obtain rfl := Option.some.inj ((show (Tryd.prog.globals[5]?).map (·.type) = some 86 by kernel_rfl).symm.trans ht5)
  obtain rfl := Option.some.inj ((show (Tryd.prog.globals[4]?).map (·.type) = some 86 by kernel_rfl).symm.trans ht4)
  have hrow : ∀ {n : String} {g : Nat} {cs : Array Value}, Tryd.prog.globalNamed n = some g → W.var? Tryd.prog n = some cs → ∃ t fr, W.heap[g]? = some (.cells cs t fr) := by
    intro n g cs hg hv
    unfold World.var? at hv
    rw [hg] at hv
    simp only [Option.bind_some] at hv
    split at hv
    · rename_i c t fr hh
      injection hv with hv
      subst hv
      exact ⟨_, _, hh⟩
    · cases hv
  obtain ⟨tt0, fr0, hh0⟩ := hrow hg0 hv0
  obtain ⟨tt5, fr5, hh5⟩ := hrow hg5 hv5
  obtain ⟨tt4, fr4, hh4⟩ := hrow hg4 hv4
  have e0 : cs0 = (Lib.pow10Tab.map fun z => Value.int .u64 z).toArray := by
    have := u64s_of (zs := Lib.pow10Tab) hd0
    exact Array.ext' (by simpa using this)
  obtain ⟨u5, v5, e5⟩ := iface_of Tryd.underlying86 hd5
  obtain ⟨u4, v4, e4⟩ := iface_of Tryd.underlying86 hd4
  have e5' : cs5 = #[.iface u5 v5] := Array.ext' (by simpa using e5)
  have e4' : cs4 = #[.iface u4 v4] := Array.ext' (by simpa using e4)
  have hsz : 8 ≤ W.heap.size := by
    have := (Array.getElem?_eq_some_iff.1 h7).1
    omega
  have hm : ∃ m, c1[0]? = some (Value.int .i64 m) := by
    obtain ⟨ts, hts, _, hc⟩ := hok1 (by kernel_rfl)
    have hts' : ts = [3] := Option.some.inj (hts.symm.trans (by kernel_rfl))
    subst hts'
    have hsz1 : c1.size = 1 := hs1
    obtain ⟨v, hv⟩ : ∃ v, c1[0]? = some v := ⟨c1[0], Array.getElem?_eq_getElem (by omega)⟩
    obtain ⟨u, hu, hcell⟩ := hc 0 v hv
    have hu : u = 3 := by simpa using hu.symm
    subst hu
    unfold Cell.ok at hcell
    rw [Tryd.underlying3] at hcell
    split at hcell <;> first
      | (rename_i e; cases e; done)
      | (rename_i k n e; injection e with e; injection e with e; subst e; exact ⟨_, hcell.1 ▸ hv⟩)
      | (rename_i k' n e; cases e; exact ⟨_, hcell.1 ▸ hv⟩)
      | exact hcell.elim
  obtain ⟨m, hm⟩ := hm
  refine ⟨hsz, ⟨tt0, fr0, ?_⟩, ⟨c1, 3, (0, 0), m, ?_, hm⟩, ⟨u4, v4, tt4, fr4, ?_⟩, ⟨u5, v5, tt5, fr5, ?_⟩⟩
  · show (if 0 < glN then W.heap[0]? else none) = _
    rw [if_pos (show 0 < glN by unfold glN; omega), hh0, e0]
  · show (if 1 < glN then W.heap[1]? else none) = _
    rw [if_pos (show 1 < glN by unfold glN; omega), h1]
  · show (if 4 < glN then W.heap[4]? else none) = _
    rw [if_pos (show 4 < glN by unfold glN; omega), hh4, e4']
  · show (if 5 < glN then W.heap[5]? else none) = _
    rw [if_pos (show 5 < glN by unfold glN; omega), hh5, e5']
end Go.Proofs.YtecdcnacjlcjoaaDoor.Job

/- Job: plain laws: names, places in texts and lists. -/
namespace Go.Proofs.YtecdcnacjlcjoaaDoor.Job
open Am
set_option linter.unusedVariables false
set_option linter.unusedSimpArgs false

/-- The greatest length of what is spoken of. -/
abbrev big : Nat := 9223372036854775808
theorem wrapS {n : Nat} (h : n + 1 < 9223372036854775808) : IntKind.wrap .i64 ((n : Int) + 1) = ((n + 1 : Nat) : Int) := by rw [wrap_i64 (by omega) (by omega)]; omega
theorem strAt_some {s : Bs} {k : Nat} {b : UInt8} (h : s[k]? = some b) : strAt s (k : Int) = some (b.toNat : Int) := by
  unfold strAt
  rw [decide_eq_true (Int.natCast_nonneg k)]
  simp only [cond_true, Int.toNat_natCast, h, Option.map_some]
theorem lat_nat {α : Type} (l : List α) (k : Nat) : lat l (k : Int) = l[k]? := by
  unfold lat
  rw [decide_eq_true (Int.natCast_nonneg k)]
  simp only [cond_true, Int.toNat_natCast]
theorem get_nat {α : Type} (s : Sl α) (k : Nat) : s.get (k : Int) = s.els[k]? := lat_nat _ _
theorem lt_dec {a b : Nat} : decide ((a : Int) < ((b : Nat) : Int)) = decide (a < b) := decide_eq_decide.2 (by omega)
theorem bnd_some {k d t : Nat} (h : k ≤ t) : bnd (some (k : Int)) d t = some k := by
  unfold bnd
  simp only
  rw [if_pos ⟨by omega, by omega⟩, Int.toNat_natCast]
theorem scut_to {s : Bs} {k : Nat} (h : k ≤ s.length) : scut s none (some (k : Int)) = some (s.take k) := by
  unfold scut
  rw [bnd_some h]
  simp [bnd]
theorem scut_from {s : Bs} {k : Nat} (h : k ≤ s.length) : scut s (some (k : Int)) none = some (s.drop k) := by
  unfold scut
  simp only [bnd]
  simp only [Option.bind_some]
  rw [if_pos ⟨by omega, by omega⟩]
  simp [Int.toNat_natCast]
theorem cut_to {α : Type} {s : Sl α} {k : Nat} (h : k ≤ s.els.length) : ∃ l, Sl.cut s none (some (k : Int)) none = some l ∧ l.els = s.els.take k := by
  cases s with
  | none =>
    have hk : k = 0 := by simpa [Sl.els] using h
    subst hk
    exact ⟨none, rfl, rfl⟩
  | some p =>
    simp only [Sl.els] at h
    refine ⟨some ((p.1 ++ p.2).take k, ((p.1 ++ p.2).take (p.1.length + p.2.length)).drop k), ?_, ?_⟩
    · unfold Sl.cut
      simp only [bnd, Option.bind_some]
      rw [if_pos ⟨by omega, by omega⟩]
      simp [Int.toNat_natCast, bnd]
    · show (p.1 ++ p.2).take k = p.1.take k
      rw [List.take_append_of_le_length h]
theorem sadd_ok {a b : Bs} (h : a.length + b.length ≤ 9223372036854775807) : sadd a b = some (a ++ b) := if_pos h
theorem drop_at {α : Type} {l : List α} {k : Nat} {a : α} (h : l[k]? = some a) : l.drop k = a :: l.drop (k + 1) := by
  obtain ⟨h1, h2⟩ := List.getElem?_eq_some_iff.1 h
  rw [List.drop_eq_getElem_cons h1, h2]

theorem beqF {a b : Int} (h : a ≠ b) : (a == b) = false := by simpa using h
/-! ### names -/
def letter (b : UInt8) : Bool := decide ((b.toNat : Int) ≥ 97) && decide ((b.toNat : Int) ≤ 122)
def digit (b : UInt8) : Bool := decide ((b.toNat : Int) ≥ 48) && decide ((b.toNat : Int) ≤ 57)
def nameAt (k : Nat) (b : UInt8) : Bool := letter b || (decide (0 < k) && digit b)
def nameL : Nat → Bs → Bool
  | _, [] => true
  | k, b :: r => nameAt k b && nameL (k + 1) r
def namedP (s : Bs) : Bool := decide (1 ≤ s.length) && decide (s.length ≤ 16) && nameL 0 s

theorem name47 (N : Nat) (s : Bs) (kk : Unit → Option Bool) (hs : s.length < big) : ∀ (m k : Nat), s.length - k = m → k ≤ s.length → ∀ n, m < n → s47_l0 N s kk n (k : Int) = cond (nameL k (s.drop k)) (kk ()) (some false) := by
  intro m
  induction m with
  | zero =>
    intro k hm hk n hn
    obtain ⟨n, rfl⟩ : ∃ n', n = n' + 1 := ⟨n - 1, by omega⟩
    obtain rfl : k = s.length := by omega
    rw [s47_l0, lt_dec, decide_eq_false (by omega), List.drop_length]
    rfl
  | succ m ih =>
    intro k hm hk n hn
    obtain ⟨n, rfl⟩ : ∃ n', n = n' + 1 := ⟨n - 1, by omega⟩
    obtain ⟨b, hb⟩ : ∃ b, s[k]? = some b := ⟨s[k], List.getElem?_eq_getElem (by omega)⟩
    rw [s47_l0, lt_dec, decide_eq_true (by omega), strAt_some hb, drop_at hb]
    simp only [cond_true, Option.bind_some]
    rw [wrapS (by simp only [big] at hs; omega), ih (k + 1) (by omega) (by omega) n (by omega)]
    have hv : decide ((k : Int) > 0) = decide (0 < k) := decide_eq_decide.2 (by omega)
    rw [hv]
    simp only [nameL, nameAt, letter, digit]
    cases decide ((b.toNat : Int) ≥ 97) <;> cases decide ((b.toNat : Int) ≤ 122) <;> cases decide (0 < k) <;> cases decide ((b.toNat : Int) ≥ 48) <;> cases decide ((b.toNat : Int) ≤ 57) <;> simp
theorem len_ge {n : Nat} : decide (((n : Nat) : Int) ≥ 1) = decide (1 ≤ n) := decide_eq_decide.2 (by omega)
theorem named47 (N : Nat) (s : Bs) (hs : s.length < big) (hN : s.length < N) : s47 N s = some (namedP s) := by
  unfold s47 jn namedP
  have h := name47 N s (fun (e1570 : Unit) => cond (decide ((((List.length s : Nat) : Int) : Int) ≥ 1)) (some (decide ((((List.length s : Nat) : Int) : Int) ≤ 16))) (some false)) hs s.length 0 rfl (Nat.zero_le _) N hN
  refine Eq.trans h ?_
  rw [List.drop_zero, len_ge, show decide (((s.length : Nat) : Int) ≤ 16) = decide (s.length ≤ 16) from decide_eq_decide.2 (by omega)]
  cases nameL 0 s <;> cases decide (1 ≤ s.length) <;> cases decide (s.length ≤ 16) <;> rfl
/-! ### windows, operators -/
def spanP (n : Int) : Bool := decide (n ≥ 1) && decide (n ≤ 1099511627776)
def winP (k size slide : Int) : Bool := spanP size && ((k == 1 && slide == 0) || (k == 3 && slide == 0) || (k == 2 && spanP slide && decide (size ≤ 8 * slide)))
def mayP (o : T38) : Bool := namedP o.Name && decide (o.Agg ≥ 1) && decide (o.Agg ≤ 8) && winP o.Windows_Kind o.Windows_Size o.Windows_Slide
theorem spanP_iff {n : Int} : spanP n = true ↔ 1 ≤ n ∧ n ≤ 1099511627776 := by unfold spanP; simp
theorem span76 (N : Nat) (n : Int) : s76 N n = some (spanP n) := by
  unfold s76 spanP
  cases decide (n ≥ 1) <;> rfl
theorem wrap8 {n : Int} (h : spanP n = true) : IntKind.wrap .i64 (8 * n) = 8 * n := by
  have := spanP_iff.1 h
  exact wrap_i64 (by omega) (by omega)
theorem win48 (N : Nat) (w : T36) : s48 N w = some (cond (winP w.Kind w.Size w.Slide) 0 2) := by
  unfold s48 winP
  by_cases h1 : w.Kind < 1
  · rw [decide_eq_true h1]
    have e1 : (w.Kind == 1) = false := by simp; omega
    have e2 : (w.Kind == 2) = false := by simp; omega
    have e3 : (w.Kind == 3) = false := by simp; omega
    rw [e1, e2, e3]; simp
  · rw [decide_eq_false h1]
    by_cases h2 : w.Kind ≥ 4
    · rw [decide_eq_true h2]
      have e1 : (w.Kind == 1) = false := by simp; omega
      have e2 : (w.Kind == 2) = false := by simp; omega
      have e3 : (w.Kind == 3) = false := by simp; omega
      rw [e1, e2, e3]; simp
    · rw [decide_eq_false h2]
      have e0 : (w.Kind == 0) = false := by simp; omega
      rw [e0]
      simp only [cond_false, s75, s78, span76, Option.bind_some]
      by_cases k1 : w.Kind = 1
      · rw [k1]; cases spanP w.Size <;> cases (w.Slide == 0) <;> rfl
      · by_cases k2 : w.Kind = 2
        · rw [k2]
          cases spanP w.Size <;> cases hs : spanP w.Slide <;> simp
          rw [wrap8 hs]
          cases decide (w.Size ≤ 8 * w.Slide) <;> simp [*]
          all_goals (by_cases hd : w.Size ≤ 8 * w.Slide <;> simp [hd])
        · obtain k3 : w.Kind = 3 := by omega
          rw [k3]; cases spanP w.Size <;> cases (w.Slide == 0) <;> rfl
theorem may31 (N : Nat) (o : T38) (hs : o.Name.length < big) (hN : o.Name.length < N) : s31 N o = some (mayP o) := by
  unfold s31 mayP
  rw [named47 N _ hs hN, win48]
  simp only [Option.bind_some]
  cases namedP o.Name <;> cases decide (o.Agg ≥ 1) <;> cases decide (o.Agg ≤ 8) <;> cases winP o.Windows_Kind o.Windows_Size o.Windows_Slide <;> rfl
/-! ### numbers -/
theorem digs_len : ∀ (n u : Nat), (digs n u).length ≤ n
  | 0, u => Nat.le_refl _
  | n + 1, u => by
    unfold digs
    split
    · simp
    · rw [List.length_append]; have := digs_len n (u / 10); simp; omega
theorem numeral_len (u : Nat) : (numeral u).length ≤ 20 := digs_len 20 u
def num (n : Int) : Bs := numeral n.toNat
theorem num_len (n : Int) : (num n).length ≤ 20 := numeral_len _
/-- A number's digits, none for nought. -/
def dd (u : Nat) : Bs := if u = 0 then [] else Lib.decDigits u
theorem dd_step {u : Nat} (h : 0 < u) : dd u = dd (u / 10) ++ [UInt8.ofNat (48 + u % 10)] := by
  unfold dd
  rw [if_neg (by omega)]
  by_cases h1 : u < 10
  · rw [if_pos (by omega), Lib.decDigits, dif_pos h1, Nat.mod_eq_of_lt h1]; rfl
  · rw [if_neg (by omega), Lib.decDigits, dif_neg h1]
end Go.Proofs.YtecdcnacjlcjoaaDoor.Job

/- Job: what comes in, as plain values. -/
namespace Go.Proofs.YtecdcnacjlcjoaaDoor.Job
open Go.ChangeShapes Go.WideShapes Go.ChangeAt Go.RowKit
open Am
set_option linter.unusedVariables false
set_option linter.unusedSimpArgs false

section
variable {P : Program} {W : World}
theorem arg_agg {T : Ty} {cs : Array Value} {H : Type} {enc : TypeId × Value → H} {n : Nat} {t : TypeId} {d : DataW H} {ps : List MemPlace} (hT : tyOf P n t = some T) (h : DataW.Trod enc P W 0 (fun _ => true) true t (.agg cs) d ps) :
    ∃ x : T.den, Rep P ((G0 W).mem W) (.agg (T.enc x)) (.agg cs) := by
  obtain ⟨fuel, h⟩ := h
  obtain ⟨x, hx⟩ := trod_ty (G0_pm W) n t T fuel _ _ hT h
  have hl : (T.enc x).length = cs.size := hx.len
  have hg : ∀ i, cs.toList.getD i undef = cs.getD i undef := by intro i; simp [Array.getD_eq_getD_getElem?, List.getD_eq_getElem?_getD]
  exact ⟨x, .agg _ _ hl.symm (fun i hi => by have := hx.rep i hi; rw [show (Value.agg cs).cells.toList = cs.toList from rfl, hg] at this; exact this) (fun i hi => by have := hx.one i hi; rw [show (Value.agg cs).cells.toList = cs.toList from rfl, hg] at this; exact this)⟩
end
abbrev opTy : Ty := .pair .str (.pair (.int .i64) (.pair (.pair (.int .i64) (.pair (.int .i64) (.pair (.int .i64) .unit))) .unit))
abbrev jobTy : Ty := .pair (.int .i64) (.pair (.int .i64) (.pair (.int .i64) (.pair (.int .i64) (.pair (.slice 38 true opTy) .unit))))
theorem tyJob : tyOf Tryd.prog 10 25 = some jobTy := by kernel_rfl
def opOf (d : opTy.den) : T38 := ⟨d.1.1, d.2.1.1, d.2.2.1.1.1, d.2.2.1.2.1.1, d.2.2.1.2.2.1.1⟩
def opsOf (d : (Ty.slice 38 true opTy).den) : Sl T38 :=
  match d with
  | none => none
  | some p => some (p.1.1.map opOf, p.1.2.map opOf)
def jobOf (d : jobTy.den) : T25 := ⟨d.1.1, d.2.1.1, d.2.2.1.1, d.2.2.2.1.1, opsOf d.2.2.2.2.1⟩
theorem job_enc (d : jobTy.den) : .agg (jobTy.enc d) = T25.enc (jobOf d) := by
  obtain ⟨a, b, c, e, s, u⟩ := d
  cases s with
  | none => rfl
  | some p =>
    show AV.agg [.int .i64 a.1, .int .i64 b.1, .int .i64 c.1, .int .i64 e.1, .lst 38 (p.1.1.map fun d => elt true (opTy.enc d)) (p.1.2.map fun d => elt true (opTy.enc d))] = AV.agg [.int .i64 a.1, .int .i64 b.1, .int .i64 c.1, .int .i64 e.1, .lst 38 ((p.1.1.map opOf).map T38.enc) ((p.1.2.map opOf).map T38.enc)]
    rw [List.map_map, List.map_map]
    rfl
/-- What is known of a job that comes in. -/
structure JobIn (j : T25) : Prop where
  len : j.Ops.els.length ≤ maxLen
  name : ∀ o, o ∈ j.Ops.els → o.Name.length ≤ maxLen
theorem job_in (d : jobTy.den) : JobIn (jobOf d) := by
  obtain ⟨a, b, c, e, s, u⟩ := d
  cases s with
  | none => exact ⟨Nat.zero_le _, fun o h => by cases h⟩
  | some p =>
    refine ⟨?_, fun o h => ?_⟩
    · show (p.1.1.map opOf).length ≤ maxLen
      rw [List.length_map]; have := p.2; omega
    · have h : o ∈ p.1.1.map opOf := h
      obtain ⟨q, hq, rfl⟩ := List.mem_map.1 h
      exact q.1.2
end Go.Proofs.YtecdcnacjlcjoaaDoor.Job

/- Job: plain laws: which jobs may be. -/
namespace Go.Proofs.YtecdcnacjlcjoaaDoor.Job
open Am
set_option linter.unusedVariables false
set_option linter.unusedSimpArgs false

def named (nm : Bs) (l : List T38) : Bool := l.any fun p => p.Name == nm
def opsP : List T38 → List T38 → Bool
  | _, [] => true
  | seen, o :: r => mayP o && (!(named o.Name seen) && opsP (seen ++ [o]) r)
def rangeP (g s b l : Int) : Bool := decide (g ≥ 1) && (decide (g ≤ 64) && (decide (s ≥ 1) && (decide (s ≤ 16) && (decide (b ≥ 0) && (decide (b ≤ 1099511627776) && (decide (l ≥ 0) && decide (l ≤ 1099511627776)))))))
def checkP (j : T25) : Bool := rangeP j.Groups j.Sources j.Bound j.Late && (decide (j.Ops.els.length ≤ 8) && opsP [] j.Ops.els)
/-- What is spoken of: names that are not too long, and fewer operators than there are steps. -/
structure Fine (N : Nat) (l : List T38) : Prop where
  len : l.length < N
  big : l.length < big
  name : ∀ o, o ∈ l → o.Name.length < N ∧ o.Name.length < Job.big

def fstAt (nm : Bs) : List T38 → Nat → Option Int
  | [], _ => none
  | o :: r, k => cond (o.Name == nm) (some (k : Int)) (fstAt nm r (k + 1))
theorem fstAt_named (nm : Bs) : ∀ (l : List T38) (k : Nat), (fstAt nm l k).isSome = named nm l
  | [], _ => rfl
  | o :: r, k => by
    have ih := fstAt_named nm r (k + 1)
    unfold fstAt
    unfold named at ih ⊢
    rw [List.any_cons, ← ih]
    cases o.Name == nm <;> rfl
theorem fstAt_ge (nm : Bs) : ∀ (l : List T38) (k : Nat) (i : Int), fstAt nm l k = some i → 0 ≤ i
  | [], _, _, h => by cases h
  | o :: r, k, i, h => by
    unfold fstAt at h
    cases hb : o.Name == nm with
    | true => rw [hb] at h; injection h with h; omega
    | false => rw [hb] at h; exact fstAt_ge nm r (k + 1) i h
theorem any32 {nm : Bs} {l : List T38} {x : Option Int} (h : x = match fstAt nm l 0 with | some i => some i | none => some (-1)) : (Option.bind x fun y => some (decide (y ≥ 0))) = some (named nm l) := by
  have h1 := fstAt_named nm l 0
  have h2 := fstAt_ge nm l 0
  subst h
  cases hf : fstAt nm l 0 with
  | none => rw [hf] at h1; rw [← h1]; rfl
  | some i => rw [hf] at h1; rw [← h1]; have := h2 i hf; simp [this]
theorem len8 {l : List T38} : decide (((l.length : Nat) : Int) ≤ 8) = decide (l.length ≤ 8) := decide_eq_decide.2 (by omega)
end Go.Proofs.YtecdcnacjlcjoaaDoor.Job

/- Job: plain laws: which jobs may be: job.Check. -/
namespace Go.Proofs.YtecdcnacjlcjoaaDoor.Job
open Am
set_option linter.unusedVariables false
set_option linter.unusedSimpArgs false

theorem find49_0 (N : Nat) (l : Sl T38) (nm : Bs) (a b c d : Int) (kk : Unit → Option Int) (hl : l.els.length < big) : ∀ (m k : Nat), l.els.length - k = m → k ≤ l.els.length → ∀ n, m < n → s49_0_l0 N l nm a b c d kk n (k : Int) = match fstAt nm (l.els.drop k) k with | some i => some i | none => kk () := by
  intro m
  induction m with
  | zero =>
    intro k hm hk n hn
    obtain ⟨n, rfl⟩ : ∃ n', n = n' + 1 := ⟨n - 1, by omega⟩
    obtain rfl : k = l.els.length := by omega
    rw [s49_0_l0, Sl.len, lt_dec, decide_eq_false (by omega), List.drop_length]
    rfl
  | succ m ih =>
    intro k hm hk n hn
    obtain ⟨n, rfl⟩ : ∃ n', n = n' + 1 := ⟨n - 1, by omega⟩
    obtain ⟨o, ho⟩ : ∃ o, l.els[k]? = some o := ⟨l.els[k], List.getElem?_eq_getElem (by omega)⟩
    rw [s49_0_l0, Sl.len, lt_dec, decide_eq_true (by omega), get_nat, ho, drop_at ho]
    simp only [cond_true, Option.bind_some, s33_0]
    rw [wrapS (by simp only [big] at hl; omega), ih (k + 1) (by omega) (by omega) n (by omega), fstAt]
    cases o.Name == nm <;> rfl
theorem any32_0 (N : Nat) (l : Sl T38) (nm : Bs) (a b c d : Int) (hl : l.els.length < big) (hN : l.els.length < N) : s32_0 N l nm a b c d = some (named nm l.els) := by
  unfold s32_0 s49_0 jn
  have h := find49_0 N l nm a b c d (fun _ => some (-1)) hl l.els.length 0 rfl (Nat.zero_le _) N hN
  rw [List.drop_zero] at h
  exact any32 h
theorem check15 (N : Nat) (j : T25) (kk : Bool → Option Int) (hf : Fine N j.Ops.els) : ∀ (m k : Nat), j.Ops.els.length - k = m → k ≤ j.Ops.els.length → ∀ n v, m < n → s15_l0 N j kk n v (k : Int) = kk (v && opsP (j.Ops.els.take k) (j.Ops.els.drop k)) := by
  intro m
  induction m with
  | zero =>
    intro k hm hk n v hn
    obtain ⟨n, rfl⟩ : ∃ n', n = n' + 1 := ⟨n - 1, by omega⟩
    obtain rfl : k = j.Ops.els.length := by omega
    rw [s15_l0, Sl.len, lt_dec, decide_eq_false (by omega), List.drop_length]
    simp [opsP]
  | succ m ih =>
    intro k hm hk n v hn
    obtain ⟨n, rfl⟩ : ∃ n', n = n' + 1 := ⟨n - 1, by omega⟩
    obtain ⟨o, ho⟩ : ∃ o, j.Ops.els[k]? = some o := ⟨j.Ops.els[k], List.getElem?_eq_getElem (by omega)⟩
    have hmem : o ∈ j.Ops.els := List.mem_of_getElem? ho
    obtain ⟨l, hl1, hl2⟩ := cut_to (s := j.Ops) (k := k) (by omega)
    have hll : l.els.length ≤ j.Ops.els.length := by rw [hl2, List.length_take]; omega
    have hb := hf.big
    have hN := hf.len
    have htk : j.Ops.els.take (k + 1) = j.Ops.els.take k ++ [o] := by rw [List.take_add_one, ho]; rfl
    rw [s15_l0, Sl.len, lt_dec, decide_eq_true (by omega), get_nat, ho, drop_at ho]
    simp only [cond_true, Option.bind_some, hl1, may31 N o (hf.name o hmem).2 (hf.name o hmem).1]
    rw [any32_0 N l _ _ _ _ _ (by omega) (by omega), hl2]
    simp only [Option.bind_some]
    have hw := @wrapS k (by simp only [big] at hb; omega)
    rw [hw, ih (k + 1) (by omega) (by omega) n _ (by omega), ih (k + 1) (by omega) (by omega) n _ (by omega), htk]
    simp only [opsP]
    cases v <;> cases mayP o <;> simp
theorem rangeP_eq (g s b l : Int) (n : Int) : (cond (decide (g ≥ 1)) (cond (decide (g ≤ 64)) (cond (decide (s ≥ 1)) (cond (decide (s ≤ 16)) (cond (decide (b ≥ 0)) (cond (decide (b ≤ 1099511627776)) (cond (decide (l ≥ 0)) (cond (decide (l ≤ 1099511627776)) (some (decide (n ≤ 8))) (some false)) (some false)) (some false)) (some false)) (some false)) (some false)) (some false)) (some false)) = some (rangeP g s b l && decide (n ≤ 8)) := by
  unfold rangeP
  cases decide (g ≥ 1) <;> cases decide (g ≤ 64) <;> cases decide (s ≥ 1) <;> cases decide (s ≤ 16) <;> cases decide (b ≥ 0) <;> cases decide (b ≤ 1099511627776) <;> cases decide (l ≥ 0) <;> cases decide (l ≤ 1099511627776) <;> rfl
theorem checkJ (N : Nat) (j : T25) (hf : Fine N j.Ops.els) : s15 N j = some (cond (checkP j) 0 2) := by
  unfold s15 jn
  rw [rangeP_eq]
  simp only [Option.bind_some]
  have h := fun v => check15 N j (fun (e : Bool) => cond (!e) (some 2) (some 0)) hf j.Ops.els.length 0 rfl (Nat.zero_le _) N v hf.len
  have h1 := h (rangeP j.Groups j.Sources j.Bound j.Late && decide (Sl.len j.Ops ≤ 8))
  rw [List.take_zero, List.drop_zero] at h1
  refine Eq.trans h1 ?_
  unfold checkP Sl.len
  rw [len8, ← Bool.and_assoc]
  cases (rangeP j.Groups j.Sources j.Bound j.Late && decide (j.Ops.els.length ≤ 8) && opsP [] j.Ops.els) <;> rfl

end Go.Proofs.YtecdcnacjlcjoaaDoor.Job

/- Job: plain laws: which jobs may be: names that are there already. -/
namespace Go.Proofs.YtecdcnacjlcjoaaDoor.Job
open Am
set_option linter.unusedVariables false
set_option linter.unusedSimpArgs false

end Go.Proofs.YtecdcnacjlcjoaaDoor.Job

/- Job: plain laws: a job as a text. -/
namespace Go.Proofs.YtecdcnacjlcjoaaDoor.Job
open Am
set_option linter.unusedVariables false
set_option linter.unusedSimpArgs false

theorem fmt27 (N : Nat) (n : Int) (h0 : 0 ≤ n) (h1 : n ≤ 1099511627776) : s27 N n = some (32 :: num n) := by
  have hl := num_len n
  have : fmtIS n 10 = some (num n) := by
    unfold fmtIS
    rw [show ((10 : Int) == 10) = true from rfl]
    simp only [cond_true]
    rw [if_pos ⟨by omega, by omega⟩]
    unfold numeralI num
    rw [if_neg (by omega)]
  unfold s27
  rw [this]
  simp only [Option.bind_some]
  rw [sadd_ok (by simp; omega)]
  rfl

/-! ### lines -/
def aggL : List Bs := [[], [99, 111, 117, 110, 116], [115, 117, 109], [109, 105, 110], [109, 97, 120], [108, 97, 115, 116], [108, 105, 115, 116], [100, 105, 115, 116, 105, 110, 99, 116], [115, 112, 105, 110]]
def kindL : List Bs := [[], [116, 117, 109, 98, 108, 105, 110, 103], [115, 108, 105, 100, 105, 110, 103], [115, 101, 115, 115, 105, 111, 110]]
def aggW (n : Int) : Bs := (lat aggL n).getD []
def kindW (n : Int) : Bs := (lat kindL n).getD []
def lineP (o : T38) : Bs := [111, 112, 32] ++ (o.Name ++ ([32] ++ (aggW o.Agg ++ ([32] ++ (kindW o.Windows_Kind ++ ([32] ++ (num o.Windows_Size ++ ((if o.Windows_Kind = 2 then [32] ++ num o.Windows_Slide else []) ++ [10]))))))))
def headP (g s b l : Int) : Bs := [103, 114, 111, 117, 112, 115, 32] ++ (num g ++ ([10, 115, 111, 117, 114, 99, 101, 115, 32] ++ (num s ++ ([10, 98, 111, 117, 110, 100, 32] ++ (num b ++ ([10, 108, 97, 116, 101, 32] ++ (num l ++ [10])))))))
def textP (j : T25) : Bs := headP j.Groups j.Sources j.Bound j.Late ++ (j.Ops.els.map lineP).flatten
/-- What an operator is that may be. -/
structure OpOk (o : T38) : Prop where
  nm : namedP o.Name = true
  len : o.Name.length ≤ 16
  agg0 : 1 ≤ o.Agg
  agg1 : o.Agg ≤ 8
  kind : o.Windows_Kind = 1 ∨ o.Windows_Kind = 2 ∨ o.Windows_Kind = 3
  size0 : 1 ≤ o.Windows_Size
  size1 : o.Windows_Size ≤ 1099511627776
  slide : (o.Windows_Kind ≠ 2 ∧ o.Windows_Slide = 0) ∨ (o.Windows_Kind = 2 ∧ 1 ≤ o.Windows_Slide ∧ o.Windows_Slide ≤ 1099511627776 ∧ o.Windows_Size ≤ 8 * o.Windows_Slide)
theorem named_len {s : Bs} (h : namedP s = true) : s.length ≤ 16 := by
  unfold namedP at h
  rw [Bool.and_eq_true, Bool.and_eq_true] at h
  exact of_decide_eq_true h.1.2
theorem OpOk.of {o : T38} (h : mayP o = true) : OpOk o := by
  unfold mayP winP at h
  simp only [Bool.and_eq_true, Bool.or_eq_true, decide_eq_true_eq, spanP_iff, beq_iff_eq] at h
  obtain ⟨⟨⟨h1, h2⟩, h3⟩, ⟨h4, h5⟩, h6⟩ := h
  exact ⟨h1, named_len h1, by omega, by omega, by omega, by omega, by omega, by omega⟩
theorem lat_agg {n : Int} (h0 : 1 ≤ n) (h1 : n ≤ 8) : lat aggL n = some (aggW n) ∧ (aggW n).length ≤ 8 := by
  obtain ⟨k, rfl⟩ : ∃ k : Nat, n = k := ⟨n.toNat, by omega⟩
  have : k = 1 ∨ k = 2 ∨ k = 3 ∨ k = 4 ∨ k = 5 ∨ k = 6 ∨ k = 7 ∨ k = 8 := by omega
  rcases this with rfl | rfl | rfl | rfl | rfl | rfl | rfl | rfl <;> exact ⟨rfl, by decide⟩
theorem lat_kind {n : Int} (h : n = 1 ∨ n = 2 ∨ n = 3) : lat kindL n = some (kindW n) ∧ (kindW n).length ≤ 8 := by
  rcases h with rfl | rfl | rfl <;> exact ⟨rfl, by decide⟩
theorem line_len {o : T38} (h : OpOk o) : (lineP o).length ≤ 200 := by
  have h1 := h.len
  have h2 := (lat_agg h.agg0 h.agg1).2
  have h3 := (lat_kind h.kind).2
  have h4 := num_len o.Windows_Size
  have h5 := num_len o.Windows_Slide
  unfold lineP
  split <;> simp <;> omega
theorem text13 (N : Nat) (j : T25) (kk : Bs → Option (Bs × Int)) (hb : j.Ops.els.length < big) (ho : ∀ o, o ∈ j.Ops.els → OpOk o) : ∀ (m k : Nat), j.Ops.els.length - k = m → k ≤ j.Ops.els.length → ∀ n acc, m < n → acc.length + 200 * m ≤ 1000000000 → s13_l0 N j kk n acc (k : Int) = kk (acc ++ ((j.Ops.els.drop k).map lineP).flatten) := by
  intro m
  induction m with
  | zero =>
    intro k hm hk n acc hn ha
    obtain ⟨n, rfl⟩ : ∃ n', n = n' + 1 := ⟨n - 1, by omega⟩
    obtain rfl : k = j.Ops.els.length := by omega
    rw [s13_l0, Sl.len, lt_dec, decide_eq_false (by omega), List.drop_length]
    simp
  | succ m ih =>
    intro k hm hk n acc hn ha
    obtain ⟨n, rfl⟩ : ∃ n', n = n' + 1 := ⟨n - 1, by omega⟩
    obtain ⟨o, hq⟩ : ∃ o, j.Ops.els[k]? = some o := ⟨j.Ops.els[k], List.getElem?_eq_getElem (by omega)⟩
    have hok := ho o (List.mem_of_getElem? hq)
    have hl := line_len hok
    have h1 := hok.len
    have h2 := (lat_agg hok.agg0 hok.agg1).2
    have h3 := (lat_kind hok.kind).2
    have h4 := num_len o.Windows_Size
    have h5 := num_len o.Windows_Slide
    have h6 := hok.size0
    have h7 := hok.size1
    have ha' := (lat_agg hok.agg0 hok.agg1).1
    have hk' := (lat_kind hok.kind).1
    unfold aggL at ha'
    unfold kindL at hk'
    rw [s13_l0, Sl.len, lt_dec, decide_eq_true (by omega), get_nat, hq, drop_at hq]
    simp only [cond_true, Option.bind_some]
    rw [sadd_ok (by simp; omega)]
    simp only [Option.bind_some]
    rw [sadd_ok (by simp; omega)]
    simp only [Option.bind_some, ha', hk']
    rw [sadd_ok (by simp; omega)]
    simp only [Option.bind_some]
    rw [sadd_ok (by simp; omega)]
    simp only [Option.bind_some]
    rw [sadd_ok (by simp; omega)]
    simp only [Option.bind_some, fmt27 N o.Windows_Size (by omega) (by omega)]
    rw [sadd_ok (by simp; omega)]
    simp only [Option.bind_some]
    rw [sadd_ok (by simp; omega)]
    simp only [Option.bind_some]
    by_cases k2 : o.Windows_Kind = 2
    · have hs : 1 ≤ o.Windows_Slide ∧ o.Windows_Slide ≤ 1099511627776 := by have := hok.slide; omega
      rw [show ((o.Windows_Kind : Int) == 2) = true by simp [k2]]
      simp only [cond_true, fmt27 N o.Windows_Slide (by omega) (by omega), Option.bind_some]
      rw [sadd_ok (by simp; omega)]
      simp only [Option.bind_some]
      rw [sadd_ok (by simp; omega)]
      simp only [Option.bind_some]
      rw [wrapS (by simp only [big] at hb; omega), ih (k + 1) (by omega) (by omega) n _ (by omega) (by simp; omega)]
      simp [lineP, k2]
    · rw [show ((o.Windows_Kind : Int) == 2) = false by simp [k2]]
      simp only [cond_false, Option.bind_some]
      rw [sadd_ok (by simp; omega)]
      simp only [Option.bind_some]
      rw [wrapS (by simp only [big] at hb; omega), ih (k + 1) (by omega) (by omega) n _ (by omega) (by simp; omega)]
      simp [lineP, k2]
structure RangeOk (g s b l : Int) : Prop where
  g0 : 1 ≤ g
  g1 : g ≤ 64
  s0 : 1 ≤ s
  s1 : s ≤ 16
  b0 : 0 ≤ b
  b1 : b ≤ 1099511627776
  l0 : 0 ≤ l
  l1 : l ≤ 1099511627776
theorem rangeP_iff {g s b l : Int} : rangeP g s b l = true ↔ RangeOk g s b l := by
  unfold rangeP
  simp only [Bool.and_eq_true, decide_eq_true_eq]
  exact ⟨fun ⟨a, b, c, d, e, f, g, h⟩ => ⟨a, b, c, d, e, f, g, h⟩, fun ⟨a, b, c, d, e, f, g, h⟩ => ⟨a, b, c, d, e, f, g, h⟩⟩
theorem opsP_ok : ∀ {l seen : List T38}, opsP seen l = true → ∀ o, o ∈ l → OpOk o
  | [], _, _, o, h => by cases h
  | q :: r, seen, h, o, ho => by
    unfold opsP at h
    rw [Bool.and_eq_true, Bool.and_eq_true] at h
    rcases List.mem_cons.1 ho with rfl | ho
    · exact OpOk.of h.1
    · exact opsP_ok h.2.2 o ho
theorem check_parts {j : T25} (h : checkP j = true) : RangeOk j.Groups j.Sources j.Bound j.Late ∧ j.Ops.els.length ≤ 8 ∧ opsP [] j.Ops.els = true := by
  unfold checkP at h
  rw [Bool.and_eq_true, Bool.and_eq_true, rangeP_iff] at h
  exact ⟨h.1, of_decide_eq_true h.2.1, h.2.2⟩
theorem textJ (N : Nat) (j : T25) (hf : Fine N j.Ops.els) (hN : 30 < N) : s13 N j = some (cond (checkP j) (textP j, 0) ([], 2)) := by
  unfold s13
  rw [checkJ N j hf]
  simp only [Option.bind_some]
  cases hc : checkP j with
  | false => rfl
  | true =>
    obtain ⟨r, h8, hops⟩ := check_parts hc
    have n1 := num_len j.Groups
    have n2 := num_len j.Sources
    have n3 := num_len j.Bound
    have n4 := num_len j.Late
    simp only [cond_true, show ((0 : Int) != 0) = false from rfl, cond_false]
    rw [fmt27 N j.Groups (by have := r.g0; omega) (by have := r.g1; omega)]
    simp only [Option.bind_some]
    rw [sadd_ok (by simp; omega)]
    simp only [Option.bind_some]
    rw [sadd_ok (by simp; omega)]
    simp only [Option.bind_some]
    rw [fmt27 N j.Sources (by have := r.s0; omega) (by have := r.s1; omega)]
    simp only [Option.bind_some]
    rw [sadd_ok (by simp; omega)]
    simp only [Option.bind_some]
    rw [sadd_ok (by simp; omega)]
    simp only [Option.bind_some]
    rw [fmt27 N j.Bound r.b0 r.b1]
    simp only [Option.bind_some]
    rw [sadd_ok (by simp; omega)]
    simp only [Option.bind_some]
    rw [sadd_ok (by simp; omega)]
    simp only [Option.bind_some]
    rw [fmt27 N j.Late r.l0 r.l1]
    simp only [Option.bind_some]
    rw [sadd_ok (by simp; omega)]
    simp only [Option.bind_some]
    rw [sadd_ok (by simp; omega)]
    simp only [Option.bind_some, jn]
    refine (text13 N j (fun e => some (e, 0)) hf.big (opsP_ok hops) j.Ops.els.length 0 rfl (Nat.zero_le _) N _ hf.len (by simp; omega)).trans ?_
    simp [textP, headP]
end Go.Proofs.YtecdcnacjlcjoaaDoor.Job

/- Job: plain laws: every job is written as the document says, and it is told whether two are the same. -/
namespace Go.Proofs.YtecdcnacjlcjoaaDoor.Job
open Am
set_option linter.unusedVariables false
set_option linter.unusedSimpArgs false

/-- Steps enough for a job's lists and names. -/
theorem fine_of {j : T25} (h : JobIn j) (n : Nat) : Fine (maxLen + 200 + n) j.Ops.els :=
  ⟨by have := h.len; omega, by have := h.len; unfold maxLen at this; simp only [big]; omega, fun o ho => by have := h.name o ho; unfold maxLen at this ⊢; exact ⟨by omega, by simp only [Job.big]; omega⟩⟩
theorem fit0 : Fit 0 [] [] := ⟨Nat.le_refl _, fun i o h => by cases h⟩
end Go.Proofs.YtecdcnacjlcjoaaDoor.Job

/- Job: plain laws: words, lines, numbers that are read. -/
namespace Go.Proofs.YtecdcnacjlcjoaaDoor.Job
open Am
set_option linter.unusedVariables false
set_option linter.unusedSimpArgs false

/-! ### digits -/
def dval (acc : Nat) (s : Bs) : Nat := s.foldl (fun a b => 10 * a + (b.toNat - 48)) acc
theorem digit_iff {b : UInt8} : digit b = true ↔ 48 ≤ b.toNat ∧ b.toNat ≤ 57 := by unfold digit; rw [Bool.and_eq_true, decide_eq_true_eq, decide_eq_true_eq]; omega
theorem dval_snoc (acc : Nat) (s : Bs) (b : UInt8) : dval acc (s ++ [b]) = 10 * dval acc s + (b.toNat - 48) := by unfold dval; rw [List.foldl_append]; rfl
/-- A number as it is written: digits, no nought ahead of others. -/
def canon (s : Bs) : Bool := s.all digit && (decide (1 ≤ s.length) && (decide (s.length = 1) || !(s.head? == some 48)))
theorem dd_canon : ∀ (n u : Nat), u < 10 ^ n → (dd u).all digit = true ∧ dval 0 (dd u) = u ∧ (dd u).length ≤ n ∧ (dd u).head? ≠ some 48
  | 0, u, h => by
    obtain rfl : u = 0 := by simpa using h
    exact ⟨rfl, rfl, Nat.le_refl _, by decide⟩
  | n + 1, u, h => by
    by_cases h0 : u = 0
    · subst h0; exact ⟨rfl, rfl, Nat.zero_le _, by decide⟩
    · obtain ⟨h1, h2, h3, h4⟩ := dd_canon n (u / 10) (by rw [Nat.pow_succ] at h; omega)
      have hb : (UInt8.ofNat (48 + u % 10)).toNat = 48 + u % 10 := by rw [UInt8.toNat_ofNat']; omega
      rw [dd_step (by omega)]
      refine ⟨?_, ?_, ?_, ?_⟩
      · rw [List.all_append, h1]
        have : digit (UInt8.ofNat (48 + u % 10)) = true := digit_iff.2 (by rw [hb]; omega)
        rw [List.all_cons, List.all_nil, this]; rfl
      · rw [dval_snoc, h2, hb]; omega
      · rw [List.length_append]; simp; omega
      · by_cases hz : u / 10 = 0
        · rw [hz]
          show some (UInt8.ofNat (48 + u % 10)) ≠ some 48
          intro e
          injection e with e
          have := congrArg UInt8.toNat e
          rw [hb] at this
          have h48 : (48 : UInt8).toNat = 48 := rfl
          omega
        · cases hdd : dd (u / 10) with
          | nil => rw [hdd] at h2; exact absurd h2.symm hz
          | cons x r => rw [hdd] at h4; simpa using h4
theorem dec_canon {u n : Nat} (h : u < 10 ^ n) (hn : 1 ≤ n) : canon (Lib.decDigits u) = true ∧ dval 0 (Lib.decDigits u) = u ∧ (Lib.decDigits u).length ≤ n := by
  by_cases h0 : u = 0
  · subst h0; rw [Lib.decDigits]; exact ⟨by decide, by decide, by simpa using hn⟩
  · obtain ⟨h1, h2, h3, h4⟩ := dd_canon n u h
    have e : dd u = Lib.decDigits u := by unfold dd; rw [if_neg h0]
    rw [e] at h1 h2 h3 h4
    refine ⟨?_, h2, h3⟩
    unfold canon
    have hne : Lib.decDigits u ≠ [] := by intro e; rw [e] at h2; exact h0 h2.symm
    have hl : 1 ≤ (Lib.decDigits u).length := by cases hx : Lib.decDigits u with | nil => exact absurd hx hne | cons a b => simp
    rw [h1, decide_eq_true hl]
    have : ((Lib.decDigits u).head? == some 48) = false := by simpa using h4
    rw [this]; simp
/-- The number that a word is, at most 2^40. -/
def numP (s : Bs) : Option Nat := if canon s = true ∧ dval 0 s ≤ 1099511627776 then some (dval 0 s) else none
theorem numP_num {u : Nat} (h : u ≤ 1099511627776) : numP (numeral u) = some u := by
  obtain ⟨h1, h2, h3⟩ := dec_canon (u := u) (n := 13) (by omega) (by omega)
  rw [numeral_dec (by omega)]
  unfold numP
  rw [h2, if_pos ⟨h1, h⟩]
end Go.Proofs.YtecdcnacjlcjoaaDoor.Job

/- Job: plain laws: words and numbers, as the document's text reads them. -/
namespace Go.Proofs.YtecdcnacjlcjoaaDoor.Job
open Am
set_option linter.unusedVariables false
set_option linter.unusedSimpArgs false

end Go.Proofs.YtecdcnacjlcjoaaDoor.Job

/- Job: plain laws: how a line is read. -/
namespace Go.Proofs.YtecdcnacjlcjoaaDoor.Job
open Am
set_option linter.unusedVariables false
set_option linter.unusedSimpArgs false

def slOf (l : List T38) : Sl T38 := match l with | [] => none | o :: r => some (o :: r, [])
/-! ### the head's lines -/
def headK : Nat → Bs
  | 0 => [103, 114, 111, 117, 112, 115]
  | 1 => [115, 111, 117, 114, 99, 101, 115]
  | 2 => [98, 111, 117, 110, 100]
  | _ => [108, 97, 116, 101]
/-! ### an operator's line -/
def aggN (s : Bs) : Int := cond (s == [99, 111, 117, 110, 116]) 1 (cond (s == [115, 117, 109]) 2 (cond (s == [109, 105, 110]) 3 (cond (s == [109, 97, 120]) 4 (cond (s == [108, 97, 115, 116]) 5 (cond (s == [108, 105, 115, 116]) 6 (cond (s == [100, 105, 115, 116, 105, 110, 99, 116]) 7 (cond (s == [115, 112, 105, 110]) 8 0)))))))
/-- An answer and whether it is to be taken. -/
def Tells (x : Option (T25 × Bool)) (y : Option T25) : Prop := ∃ j, x = some (j, y.isSome) ∧ ∀ q, y = some q → j = q
theorem Tells.no {x : Option (T25 × Bool)} {y : Option T25} {j : T25} (h : x = some (j, false)) (hy : y = none) : Tells x y := ⟨j, by rw [hy]; exact h, fun q hq => by rw [hy] at hq; cases hq⟩
theorem Tells.yes {x : Option (T25 × Bool)} {y : Option T25} {j : T25} (h : x = some (j, true)) (hy : y = some j) : Tells x y := ⟨j, by rw [hy]; exact h, fun q hq => by rw [hy] at hq; exact Option.some.inj hq⟩
end Go.Proofs.YtecdcnacjlcjoaaDoor.Job

/- Job: plain laws: what a line does, in both programs. -/
namespace Go.Proofs.YtecdcnacjlcjoaaDoor.Job
open Am
set_option linter.unusedVariables false
set_option linter.unusedSimpArgs false

structure Inv (k : Nat) (j : T25) : Prop where
  ops : j.Ops = slOf j.Ops.els
  le : j.Ops.els.length ≤ 8
  may : opsP [] j.Ops.els = true
  g : 1 ≤ k → 1 ≤ j.Groups ∧ j.Groups ≤ 64
  s : 2 ≤ k → 1 ≤ j.Sources ∧ j.Sources ≤ 16
  b : 3 ≤ k → 0 ≤ j.Bound ∧ j.Bound ≤ 1099511627776
  l : 4 ≤ k → 0 ≤ j.Late ∧ j.Late ≤ 1099511627776
theorem opsP_snoc : ∀ (l seen : List T38) (o : T38), opsP seen (l ++ [o]) = (opsP seen l && (mayP o && !(named o.Name (seen ++ l))))
  | [], seen, o => by simp [opsP]
  | q :: r, seen, o => by
    rw [List.cons_append]
    unfold opsP
    rw [opsP_snoc r (seen ++ [q]) o]
    simp [Bool.and_assoc]
end Go.Proofs.YtecdcnacjlcjoaaDoor.Job

/- Job: plain laws: what a line does, in the job's own program. -/
namespace Go.Proofs.YtecdcnacjlcjoaaDoor.Job
open Am
set_option linter.unusedVariables false
set_option linter.unusedSimpArgs false

def JTells (x : Option (Bool × T25)) (y : Option T25) : Prop := ∃ j, x = some (y.isSome, j) ∧ ∀ q, y = some q → j = q
theorem JTells.no {x : Option (Bool × T25)} {y : Option T25} {j : T25} (h : x = some (false, j)) (hy : y = none) : JTells x y := ⟨j, by rw [hy]; exact h, fun q hq => by rw [hy] at hq; cases hq⟩
theorem JTells.yes {x : Option (Bool × T25)} {y : Option T25} {j : T25} (h : x = some (true, j)) (hy : y = some j) : JTells x y := ⟨j, by rw [hy]; exact h, fun q hq => by rw [hy] at hq; exact Option.some.inj hq⟩
end Go.Proofs.YtecdcnacjlcjoaaDoor.Job

/- Job: plain laws: how a text is read, by both programs. -/
namespace Go.Proofs.YtecdcnacjlcjoaaDoor.Job
open Am
set_option linter.unusedVariables false
set_option linter.unusedSimpArgs false

end Go.Proofs.YtecdcnacjlcjoaaDoor.Job

/- Job: plain laws: a text's words and lines, and back. -/
namespace Go.Proofs.YtecdcnacjlcjoaaDoor.Job
open Am
set_option linter.unusedVariables false
set_option linter.unusedSimpArgs false

def joinL (c : UInt8) : List Bs → Bs
  | [] => []
  | [w] => w
  | w :: w' :: t => w ++ c :: joinL c (w' :: t)
theorem digit_ne {b c : UInt8} (h : digit b = true) (hc : c.toNat < 48) : b ≠ c := by
  intro e
  have := digit_iff.1 h
  rw [e] at this
  omega
theorem numOk {n : Int} (h0 : 0 ≤ n) (h1 : n ≤ 1099511627776) : num n = numeral n.toNat ∧ numP (num n) = some n.toNat ∧ (10 : UInt8) ∉ num n ∧ (32 : UInt8) ∉ num n := by
  have hle : n.toNat ≤ 1099511627776 := by omega
  have hp := numP_num hle
  have hall : (numeral n.toNat).all digit = true := by
    unfold numP at hp
    split at hp
    · rename_i hc
      have hc := hc.1
      unfold canon at hc
      rw [Bool.and_eq_true] at hc
      exact hc.1
    · cases hp
  have hd := List.all_eq_true.1 hall
  have e : num n = numeral n.toNat := rfl
  rw [e]
  exact ⟨rfl, hp, fun h => digit_ne (hd _ h) (by decide) rfl, fun h => digit_ne (hd _ h) (by decide) rfl⟩
theorem letter_iff {b : UInt8} : letter b = true ↔ 97 ≤ b.toNat ∧ b.toNat ≤ 122 := by unfold letter; rw [Bool.and_eq_true, decide_eq_true_eq, decide_eq_true_eq]; omega
theorem name_clean (c : UInt8) (hc : c.toNat < 48) : ∀ (s : Bs) (k : Nat), nameL k s = true → c ∉ s
  | [], _, _ => by simp
  | b :: r, k, h => by
    unfold nameL at h
    rw [Bool.and_eq_true] at h
    intro hm
    rcases List.mem_cons.1 hm with rfl | hm
    · have := h.1
      unfold nameAt at this
      rw [Bool.or_eq_true, Bool.and_eq_true] at this
      rcases this with h | ⟨_, h⟩
      · have := letter_iff.1 h; omega
      · have := digit_iff.1 h; omega
    · exact name_clean c hc r (k + 1) h.2 hm
theorem named_clean {s : Bs} (h : namedP s = true) : (10 : UInt8) ∉ s ∧ (32 : UInt8) ∉ s := by
  unfold namedP at h
  rw [Bool.and_eq_true] at h
  exact ⟨name_clean 10 (by decide) s 0 h.2, name_clean 32 (by decide) s 0 h.2⟩
theorem agg_clean {n : Int} (h0 : 1 ≤ n) (h1 : n ≤ 8) : (10 : UInt8) ∉ aggW n ∧ (32 : UInt8) ∉ aggW n ∧ aggN (aggW n) = n := by
  obtain ⟨k, rfl⟩ : ∃ k : Nat, n = k := ⟨n.toNat, by omega⟩
  have : k = 1 ∨ k = 2 ∨ k = 3 ∨ k = 4 ∨ k = 5 ∨ k = 6 ∨ k = 7 ∨ k = 8 := by omega
  rcases this with rfl | rfl | rfl | rfl | rfl | rfl | rfl | rfl <;> exact ⟨by decide, by decide, rfl⟩
theorem kind_clean {n : Int} (h : n = 1 ∨ n = 2 ∨ n = 3) : (10 : UInt8) ∉ kindW n ∧ (32 : UInt8) ∉ kindW n := by
  rcases h with rfl | rfl | rfl <;> exact ⟨by decide, by decide⟩
/-- An operator's words. -/
def wordsP (o : T38) : List Bs := [[111, 112], o.Name, aggW o.Agg, kindW o.Windows_Kind, num o.Windows_Size] ++ (if o.Windows_Kind = 2 then [num o.Windows_Slide] else [])
theorem line_words (o : T38) : lineP o = joinL 32 (wordsP o) ++ [10] := by
  unfold lineP wordsP
  by_cases h : o.Windows_Kind = 2
  · rw [if_pos h, if_pos h]; simp [joinL]
  · rw [if_neg h, if_neg h]; simp [joinL]
theorem words_clean {o : T38} (h : OpOk o) : ∀ w, w ∈ wordsP o → (10 : UInt8) ∉ w ∧ (32 : UInt8) ∉ w := by
  intro w hw
  unfold wordsP at hw
  rcases List.mem_append.1 hw with hw | hw
  · simp only [List.mem_cons, List.not_mem_nil, or_false] at hw
    rcases hw with rfl | rfl | rfl | rfl | rfl
    · exact ⟨by decide, by decide⟩
    · exact named_clean h.nm
    · have := agg_clean h.agg0 h.agg1; exact ⟨this.1, this.2.1⟩
    · exact kind_clean h.kind
    · have := numOk (show 0 ≤ o.Windows_Size from by have := h.size0; omega) h.size1; exact this.2.2
  · by_cases k2 : o.Windows_Kind = 2
    · rw [if_pos k2] at hw
      simp only [List.mem_cons, List.not_mem_nil, or_false] at hw
      subst hw
      have hs := h.slide
      exact (numOk (show 0 ≤ o.Windows_Slide by omega) (by omega)).2.2
    · rw [if_neg k2] at hw; cases hw
theorem join_clean (c d : UInt8) (hd : d ≠ c) : ∀ ws : List Bs, (∀ w, w ∈ ws → c ∉ w) → c ∉ joinL d ws
  | [], _ => by simp [joinL]
  | [w], h => h w (by simp)
  | w :: w' :: t, h => by
    show c ∉ w ++ d :: joinL d (w' :: t)
    intro hm
    rcases List.mem_append.1 hm with hm | hm
    · exact h w (by simp) hm
    · rcases List.mem_cons.1 hm with hm | hm
      · exact hd hm.symm
      · exact join_clean c d hd (w' :: t) (fun x hx => h x (List.mem_cons_of_mem _ hx)) hm
theorem line_clean {o : T38} (h : OpOk o) : (10 : UInt8) ∉ joinL 32 (wordsP o) := join_clean 10 32 (by decide) _ (fun w hw => (words_clean h w hw).1)
end Go.Proofs.YtecdcnacjlcjoaaDoor.Job

/- Job: plain laws: what is written is read back, and what is read is written so. -/
namespace Go.Proofs.YtecdcnacjlcjoaaDoor.Job
open Am
set_option linter.unusedVariables false
set_option linter.unusedSimpArgs false

def hl (k : Nat) (n : Int) : Bs := headK k ++ 32 :: num n
theorem lines_len : ∀ l : List T38, (∀ o, o ∈ l → OpOk o) → ((l.map lineP).flatten).length ≤ 200 * l.length
  | [], _ => Nat.zero_le _
  | o :: r, h => by
    have h1 := line_len (h o (by simp))
    have h2 := lines_len r (fun x hx => h x (List.mem_cons_of_mem _ hx))
    rw [List.map_cons, List.flatten_cons, List.length_append, List.length_cons]
    omega
theorem text_len {j : T25} (h : checkP j = true) : (textP j).length ≤ 4000 := by
  obtain ⟨r, h8, ho⟩ := check_parts h
  have h1 := lines_len _ (opsP_ok ho)
  have n1 := num_len j.Groups
  have n2 := num_len j.Sources
  have n3 := num_len j.Bound
  have n4 := num_len j.Late
  unfold textP headP
  simp
  simp at h1
  omega
end Go.Proofs.YtecdcnacjlcjoaaDoor.Job

/- Job: plain laws: a job without its last operator; a name that was there already. -/
namespace Go.Proofs.YtecdcnacjlcjoaaDoor.Job
open Am
set_option linter.unusedVariables false
set_option linter.unusedSimpArgs false

theorem noend5 (N : Nat) (L : Bs) (kk : Unit → Option Bool) (hL : 10 ∉ L) (hs : L.length < 1000000) : ∀ (m k : Nat), L.length - k = m → k ≤ L.length → ∀ n, m < n → s5_l0 N (L ++ [10]) kk n (k : Int) = kk () := by
  intro m
  have hw : IntKind.wrap .i64 ((((L ++ [10]).length : Nat) : Int) - 1) = ((L.length : Nat) : Int) := by
    rw [List.length_append, List.length_singleton, wrap_i64 (by omega) (by omega)]; omega
  induction m with
  | zero =>
    intro k hm hk n hn
    obtain ⟨n, rfl⟩ : ∃ n', n = n' + 1 := ⟨n - 1, by omega⟩
    obtain rfl : k = L.length := by omega
    rw [s5_l0, hw, lt_dec, decide_eq_false (by omega)]
    rfl
  | succ m ih =>
    intro k hm hk n hn
    obtain ⟨n, rfl⟩ : ∃ n', n = n' + 1 := ⟨n - 1, by omega⟩
    obtain ⟨b, hb⟩ : ∃ b, L[k]? = some b := ⟨L[k], List.getElem?_eq_getElem (by omega)⟩
    have hb2 : (L ++ [10])[k]? = some b := by rw [List.getElem?_append_left (by omega)]; exact hb
    have hne : (b.toNat : Int) ≠ 10 := fun e => hL (by
      have : b = 10 := UInt8.toNat_inj.1 (by have : (10 : UInt8).toNat = 10 := rfl; omega)
      rw [← this]; exact List.mem_of_getElem? hb)
    rw [s5_l0, hw, lt_dec, decide_eq_true (by omega), strAt_some hb2]
    simp only [cond_true, Option.bind_some]
    rw [beqF hne, cond_false, wrapS (by omega)]
    exact ih (k + 1) (by omega) (by omega) n (by omega)
theorem line_ge (o : T38) : 5 ≤ (lineP o).length := by
  unfold lineP
  simp
  omega
theorem text_snoc {g s b l : Int} {p q : Sl T38} {o : T38} (h : p.els = q.els ++ [o]) : textP (T25.mk g s b l p) = textP (T25.mk g s b l q) ++ lineP o := by
  unfold textP
  simp only [h]
  simp
theorem short5 (N : Nat) (j : T25) (hN : 100100 < N) (hf : Fine N j.Ops.els) : s5 N j = some true := by
  unfold s5
  by_cases h1 : Sl.len j.Ops < 1
  · rw [decide_eq_true h1]; rfl
  · by_cases h2 : Sl.len j.Ops > 50
    · rw [decide_eq_false h1, decide_eq_true h2]; rfl
    · rw [decide_eq_false h1, decide_eq_false h2, cond_false, cond_false, textJ N j hf (by omega)]
      simp only [Option.bind_some]
      cases hc : checkP j with
      | false => rfl
      | true =>
        have hn1 : 1 ≤ j.Ops.els.length := by unfold Sl.len at h1; omega
        have hn2 : j.Ops.els.length ≤ 50 := by unfold Sl.len at h2; omega
        obtain ⟨r, h8, ho⟩ := check_parts hc
        obtain ⟨o, hoo⟩ : ∃ o, j.Ops.els[j.Ops.els.length - 1]? = some o := ⟨j.Ops.els[j.Ops.els.length - 1], List.getElem?_eq_getElem (by omega)⟩
        have hsn : j.Ops.els = j.Ops.els.take (j.Ops.els.length - 1) ++ [o] := by
          have e := List.take_add_one (l := j.Ops.els) (i := j.Ops.els.length - 1)
          rw [hoo, show j.Ops.els.length - 1 + 1 = j.Ops.els.length by omega, List.take_length] at e
          exact e
        have hw : IntKind.wrap .i64 (Sl.len j.Ops - 1) = ((j.Ops.els.length - 1 : Nat) : Int) := by
          unfold Sl.len
          rw [wrap_i64 (by omega) (by omega)]; omega
        obtain ⟨l, hl, hle⟩ := cut_to (s := j.Ops) (k := j.Ops.els.length - 1) (by omega)
        have htl : (j.Ops.els.take (j.Ops.els.length - 1)).length = j.Ops.els.length - 1 := by rw [List.length_take]; omega
        have hap : Sl.app 48 (some ([], [])) l = some (some (l.els, [])) := by
          have hll : l.els.length = j.Ops.els.length - 1 := by rw [hle, htl]
          unfold Sl.app
          simp only [List.length_nil, Nat.zero_add, List.nil_append]
          have h1 : l.els.length * 48 ≤ 140737488355328 := by omega
          have h2 : l.els.length ≤ 140737488355328 := by omega
          rw [if_pos (And.intro h1 h2)]
        have hels : Sl.els (some (l.els, [])) = j.Ops.els.take (j.Ops.els.length - 1) := hle
        have hop : opsP [] (j.Ops.els.take (j.Ops.els.length - 1)) = true ∧ mayP o = true := by
          rw [hsn, opsP_snoc, Bool.and_eq_true, Bool.and_eq_true] at ho
          exact ⟨ho.1, ho.2.1⟩
        have hok := OpOk.of hop.2
        have hf' : Fine N (T25.mk j.Groups j.Sources j.Bound j.Late (some (l.els, []))).Ops.els := by
          show Fine N (Sl.els (some (l.els, [])))
          rw [hels]
          exact ⟨by rw [htl]; omega, by rw [htl]; simp only [big]; omega, fun q hq => hf.name q (List.mem_of_mem_take hq)⟩
        have hc' : checkP (T25.mk j.Groups j.Sources j.Bound j.Late (some (l.els, []))) = true := by
          unfold checkP
          simp only [hels]
          rw [rangeP_iff.2 r, hop.1, htl, decide_eq_true (by omega)]
          rfl
        have htx : textP j = textP (T25.mk j.Groups j.Sources j.Bound j.Late (some (l.els, []))) ++ lineP o := by
          have := text_snoc (g := j.Groups) (s := j.Sources) (b := j.Bound) (l := j.Late) (p := j.Ops) (q := some (l.els, [])) (o := o) (by rw [hels]; exact hsn)
          exact this
        have hlt := text_len hc
        have hge := line_ge o
        have hll := line_len hok
        simp only [cond_true, show ((0 : Int) != 0) = false from rfl, cond_false]
        rw [hw, hl]
        simp only [Option.bind_some]
        rw [hap]
        simp only [Option.bind_some]
        rw [textJ N _ hf' (by omega), hc']
        simp only [Option.bind_some, cond_true, show ((0 : Int) != 0) = false from rfl, cond_false]
        rw [htx]
        generalize textP (T25.mk j.Groups j.Sources j.Bound j.Late (some (l.els, []))) = T at *
        rw [htx, List.length_append] at hlt
        rw [show decide (((T.length : Nat) : Int) ≥ (((T ++ lineP o).length : Nat) : Int)) = false from decide_eq_false (by rw [List.length_append]; omega), cond_false, scut_to (by rw [List.length_append]; omega)]
        simp only [Option.bind_some]
        rw [List.take_left, show (!((T : Bs) == T)) = false by simp, cond_false, scut_from (by rw [List.length_append]; omega)]
        simp only [Option.bind_some]
        rw [List.drop_left, show decide ((((lineP o).length : Nat) : Int) < 4) = false from decide_eq_false (by omega), cond_false]
        unfold jn
        dsimp only
        have h3 : scut (lineP o) none (some 3) = some [111, 112, 32] := scut_to (k := 3) (by omega)
        have hlw := line_words o
        have hlen : (lineP o).length = (joinL 32 (wordsP o)).length + 1 := by rw [hlw, List.length_append, List.length_singleton]
        have hw2 : IntKind.wrap .i64 ((((lineP o).length : Nat) : Int) - 1) = (((joinL 32 (wordsP o)).length : Nat) : Int) := by
          rw [wrap_i64 (by omega) (by omega)]; omega
        have hat : strAt (lineP o) (((joinL 32 (wordsP o)).length : Nat) : Int) = some 10 := by
          refine strAt_some (b := 10) ?_
          rw [hlw, List.getElem?_append_right (Nat.le_refl _), Nat.sub_self]; rfl
        have hloop := noend5 N (joinL 32 (wordsP o)) (fun _ => (strAt (lineP o) (IntKind.wrap .i64 ((((lineP o).length : Nat) : Int) - 1))).bind fun c => cond ((c : Int) == 10) ((scut (lineP o) none (some 3)).bind fun s => cond ((s : Bs) == [111, 112, 32]) (some true) (some false)) (some false)) (line_clean hok) (by omega) (joinL 32 (wordsP o)).length 0 rfl (Nat.zero_le _) N (by omega)
        rw [← hlw] at hloop
        refine Eq.trans hloop ?_
        rw [hw2, hat, h3]
        rfl
theorem JobShorter_calls (j : T25) (hj : JobIn j) : CallsR Tryd.prog (Kj 0) 5 [T25.enc j] [] [] fun x H' cl' => x = .bool true :=
  (w5 (maxLen + 200 + 100101) j fit0 (short5 _ j (by omega) (fine_of hj 100101))).mono fun x H' cl' h => h.1
end Go.Proofs.YtecdcnacjlcjoaaDoor.Job
