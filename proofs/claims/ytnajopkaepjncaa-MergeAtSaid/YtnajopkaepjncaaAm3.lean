/- How the abstract machine's values stand to Go's: 'Rep', and what becomes of it as memory grows. -/
import Derived.Test.YtnajopkaepjncaaAm2
namespace Go.Proofs.Ytnajopkaepjncaa.Am
set_option linter.unusedVariables false
open Go.RowKit

/-- What is asked of memory: the cells that are not written any more, and where the machine's own blocks lie. -/
structure Mem where
  pm : Nat → Nat → Option Value
  f : Nat → Option Nat
  bs : Nat → Nat

structure Mem.le (M N : Mem) : Prop where
  pm : ∀ b o v, M.pm b o = some v → N.pm b o = some v
  f : ∀ i b, M.f i = some b → N.f i = some b
  bs : ∀ b, M.bs b ≤ N.bs b
theorem Mem.le_refl (M : Mem) : M.le M := ⟨fun _ _ _ h => h, fun _ _ h => h, fun _ => Nat.le_refl _⟩
theorem Mem.le_trans {A B C : Mem} (h : A.le B) (k : B.le C) : A.le C :=
  ⟨fun _ _ _ e => k.pm _ _ _ (h.pm _ _ _ e), fun _ _ e => k.f _ _ (h.f _ _ e), fun _ => Nat.le_trans (h.bs _) (k.bs _)⟩


inductive Rep (P : Program) (M : Mem) : AV → Value → Prop
  | undef (v : Value) : Rep P M .undef v
  | bool (b : Bool) : Rep P M (.bool b) (.bool b)
  | int (k : IntKind) (n : Int) : Rep P M (.int k n) (.int k n)
  | str (s : List UInt8) : Rep P M (.str s) (.string ⟨⟨s⟩⟩)
  | agg (cs : List AV) (vs : Array Value) (hl : vs.size = cs.length) (h : ∀ i, i < cs.length → Rep P M (cs.getD i .undef) (vs.getD i undef))
      (h1 : ∀ i, i < cs.length → (vs.getD i undef).oneCell' = true) : Rep P M (.agg cs) (.agg vs)
  | tup (cs : List AV) (vs : Array Value) (hl : vs.size = cs.length) (h : ∀ i, i < cs.length → Rep P M (cs.getD i .undef) (vs.getD i undef)) : Rep P M (.tup cs) (.tuple vs)
  | nils : Rep P M .nils (.slice none 0 0)
  | lst (e : TypeId) (xs sp : List AV) (a : Option Addr) (cap sz b off : Nat) (c : Nat → Value) (hsz : sizeT P e = some sz) (hz : 0 < sz)
      (hall : ∀ x ∈ xs ++ sp, x.cells.length = sz) (hcap : xs.length + sp.length ≤ cap) (ha : xs ++ sp ≠ [] → a = some ⟨b, off, none⟩)
      (hc : ∀ j, j < (flat (xs ++ sp)).length → M.pm b (off + j) = some (c j))
      (hr : ∀ j, j < (flat (xs ++ sp)).length → Rep P M ((flat (xs ++ sp)).getD j .undef) (c j))
      (h1 : ∀ j, j < (flat (xs ++ sp)).length → (c j).oneCell' = true) : Rep P M (.lst e xs sp) (.slice a xs.length cap)
  | sl (e : TypeId) (id off len b cap sz : Nat) (hf : M.f id = some b) (hsz : sizeT P e = some sz) (hz : 0 < sz) (hb : off + cap * sz ≤ M.bs b) (hl : len ≤ cap) :
      Rep P M (.sl e id off len) (.slice (some ⟨b, off, none⟩) len cap)
  | nilp : Rep P M .nilp (.pointer none)
  | ptr (id off b : Nat) (hf : M.f id = some b) : Rep P M (.ptr id off) (.pointer (some ⟨b, off, none⟩))
  | ept (cs : List AV) (off b o : Nat) (c : Nat → Value) (hc : ∀ j, j < cs.length → M.pm b (o + j) = some (c j))
      (hr : ∀ j, j < cs.length → Rep P M (cs.getD j .undef) (c j)) (h1 : ∀ j, j < cs.length → (c j).oneCell' = true) :
      Rep P M (.ept cs off) (.pointer (some ⟨b, o + off, none⟩))
  | nilfn : Rep P M .nilfn .nilFunc
  | fn (f : FuncId) (cap : List AV) (vs : Array Value) (hl : vs.size = cap.length) (h : ∀ i, i < cap.length → Rep P M (cap.getD i .undef) (vs.getD i undef)) :
      Rep P M (.fn f cap) (.func (.func f) #[] vs)
  | nili : Rep P M .nili .nilIface
  | iface (t : TypeId) (x : AV) (v : Value) (h : Rep P M x v) : Rep P M (.iface t x) (.iface t v)
  | nilm : Rep P M .nilm (.map none)
  | map (id r : Nat) (hf : M.f id = some r) : Rep P M (.map id) (.map (some r))

theorem Rep.mono {P : Program} {M N : Mem} (h : M.le N) {x : AV} {v : Value} (r : Rep P M x v) : Rep P N x v := by
  induction r with
  | undef v => exact .undef v
  | bool b => exact .bool b
  | int k n => exact .int k n
  | str s => exact .str s
  | agg cs vs hl _ h1 ih => exact .agg cs vs hl ih h1
  | tup cs vs hl _ ih => exact .tup cs vs hl ih
  | nils => exact .nils
  | lst e xs sp a cap sz b off c hsz hz hall hcap ha hc _ h1 ih => exact .lst e xs sp a cap sz b off c hsz hz hall hcap ha (fun j hj => h.pm _ _ _ (hc j hj)) ih h1
  | sl e id off len b cap sz hf hsz hz hb hl => exact .sl e id off len b cap sz (h.f _ _ hf) hsz hz (Nat.le_trans hb (h.bs b)) hl
  | nilp => exact .nilp
  | ptr id off b hf => exact .ptr id off b (h.f _ _ hf)
  | ept cs off b o c hc _ h1 ih => exact .ept cs off b o c (fun j hj => h.pm _ _ _ (hc j hj)) ih h1
  | nilfn => exact .nilfn
  | fn f cap vs hl _ ih => exact .fn f cap vs hl ih
  | nili => exact .nili
  | iface t x v _ ih => exact .iface t x v ih
  | nilm => exact .nilm
  | map id r hf => exact .map id r (h.f _ _ hf)

/-- A constant. -/
theorem Rep.const {P : Program} {M : Mem} {v : Value} {x : AV} (h : constAV v = some x) : Rep P M x v := by
  unfold constAV at h
  split at h <;> first
    | (injection h with h; subst h; constructor)
    | cases h

theorem Rep.cells_size {P : Program} {M : Mem} {x : AV} {v : Value} (r : Rep P M x v) (h : 0 < x.cells.length) : v.cells.size = x.cells.length := by
  cases r <;> simp_all [AV.cells, Value.cells]
theorem Rep.cells_at {P : Program} {M : Mem} {x : AV} {v : Value} (r : Rep P M x v) (i : Nat) (h : i < x.cells.length) :
    Rep P M (x.cells.getD i .undef) (v.cells.getD i Go.undef) ∧ (v.cells.getD i Go.undef).oneCell' = true := by
  cases r <;> simp only [AV.cells, Value.cells, List.length_cons, List.length_nil] at h ⊢ <;> first
    | (exact absurd h (by omega))
    | skip
  case agg cs vs hl hh h1 => exact ⟨hh i h, h1 i h⟩
  all_goals
    obtain rfl : i = 0 := by omega
    refine ⟨?_, rfl⟩
    simp only [List.getD_cons_zero]
    first
      | (constructor <;> assumption)
      | (constructor <;> first | assumption | rfl)
      | skip
end Go.Proofs.Ytnajopkaepjncaa.Am
