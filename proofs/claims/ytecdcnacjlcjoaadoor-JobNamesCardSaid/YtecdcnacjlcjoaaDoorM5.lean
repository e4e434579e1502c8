/- Job: what the library's functions answer, as plain functions on bytes, and that these are the shelf's. -/
import Derived.Test.YtecdcnacjlcjoaaDoorM4
import Derived.Lib.Split
import Derived.Lib.CutLaws
import Derived.Lib.IndexBytes
import Derived.Lib.ParseIntB
import Derived.Lib.ItoaNum
import Derived.Shelf.Utf8.RuneCount
import Derived.Shelf.Strconv.Itoa0
import Derived.Shelf.Strconv.Itoa1
import Derived.Shelf.LaysM
import Derived.Shelf.Strconv.Itoa2
import Derived.Shelf.Strconv.Itoa3
import Derived.Shelf.Strconv.Itoa4
import Derived.Shelf.Strconv.Clone
import Derived.Shelf.Strconv.SyntaxError
import Derived.Shelf.LaysC
import Derived.Shelf.Strconv.ToError
import Derived.Shelf.Strconv.Lower
import Derived.Shelf.Strconv.ParseUint10
import Derived.Shelf.Strconv.ParseUint10Empty
import Derived.Shelf.Strconv.ParseUint10Any
import Derived.Shelf.Strconv.RangeError
import Derived.Shelf.Strconv.ToErrorRange
import Derived.Shelf.Strconv.ParseUintEmpty
import Derived.Shelf.Strconv.ParseUint10b64
import Derived.Shelf.Strconv.ParseUint10b32
import Derived.Shelf.Strconv.ParseUint10b16
import Derived.Shelf.Strconv.ParseUint10b8
import Derived.Shelf.Strconv.ParseUint10At
import Derived.Ground.MpProg
import Derived.Shelf.Pu.ParseUintPublic10
import Derived.Shelf.Pu.ErrVarParseUint
import Derived.Shelf.Strings.Search1
import Derived.Shelf.Strings.Search2
import Derived.Shelf.Strings.Search3
import Derived.Shelf.Strings.Cut
import Derived.Shelf.Strings.Count
import Derived.Shelf.Strings.Shaped
import Derived.Shelf.Strings.Split
import Derived.Shelf.Strings.SplitShaped
import Derived.Shelf.Unicode.Decode
import Derived.Shelf.Strings.RuneCount
import Derived.Shelf.Strings.Explode
import Derived.Shelf.Unicode.DecodeSlow
import Derived.Shelf.Unicode.DecodeAny
import Derived.Shelf.Slices.Turned
import Derived.Test.YtecdcnacjlcjoaaDoorProg
import Derived.Lib.AppendIntMem
import Derived.Lib.Walk
import Derived.Lib.ItoaMem
import Derived.WalkKit
import Derived.BigCall
import Derived.BigGuard
import Derived.KernelRfl
import Derived.Test.YtecdcnacjlcjoaaDoorM3
/- Job: what the library's functions answer, as plain functions on bytes, and that these are the shelf's. -/
namespace Go.Proofs.YtecdcnacjlcjoaaDoor.Job
set_option linter.unusedVariables false
set_option linter.unusedSimpArgs false

abbrev Bytes := List UInt8
/-- A text's pieces between bytes of a kind. -/
def splitL (c : UInt8) : Bytes → List Bytes
  | [] => [[]]
  | b :: r => match b == c with
    | true => [] :: splitL c r
    | false => match splitL c r with
      | p :: ps => (b :: p) :: ps
      | [] => [[b]]
/-- A text up to the first byte of a kind, what stands behind it, and whether there is one. -/
def cutL (c : UInt8) : Bytes → Bytes × Bytes × Bool
  | [] => ([], [], false)
  | b :: r => match b == c with
    | true => ([], r, true)
    | false => (b :: (cutL c r).1, (cutL c r).2.1, (cutL c r).2.2)
/-- A number's digits. -/
def digs : Nat → Nat → Bytes
  | 0, u => []
  | n + 1, u => if u < 10 then [UInt8.ofNat (48 + u)] else digs n (u / 10) ++ [UInt8.ofNat (48 + u % 10)]
def numeral (u : Nat) : Bytes := digs 20 u
def numeralI (n : Int) : Bytes := if n < 0 then 45 :: numeral n.natAbs else numeral n.toNat

theorem digs_dec : ∀ (n u : Nat), u < 10 ^ (n + 1) → digs (n + 1) u = Lib.decDigits u
  | 0, u, h => by
    have h : u < 10 := by simpa using h
    rw [digs, Lib.decDigits, if_pos h, dif_pos h]
  | n + 1, u, h => by
    rw [digs, Lib.decDigits]
    split
    · rfl
    · rw [digs_dec n (u / 10) (by rw [Nat.pow_succ] at h; omega)]
theorem numeral_dec {u : Nat} (h : u < 18446744073709551616) : numeral u = Lib.decDigits u := digs_dec 19 u (by omega)
theorem numeralI_dec {n : Int} (h0 : -9223372036854775808 ≤ n) (h1 : n ≤ 9223372036854775807) : numeralI n = Lib.itoa n := by
  unfold numeralI Lib.itoa
  split
  · rw [numeral_dec (by omega)]
  · rw [numeral_dec (by omega)]

theorem index_cons (c b : UInt8) (r : Bytes) : Lib.index (b :: r) [c] = if b = c then 0 else if Lib.index r [c] = -1 then -1 else Lib.index r [c] + 1 := by
  rw [Lib.index_one, Lib.index_one]
  have := Lib.indexByte_ge r c
  rw [Lib.indexByte]
  by_cases h : b = c
  · simp [h]
  · rw [if_neg h, if_neg (by simpa using h)]
    by_cases h1 : Lib.indexByte r c = -1
    · rw [if_pos h1]; simp [h1]
    · rw [if_neg h1]; simp [h1]
theorem index_nil (c : UInt8) : Lib.index [] [c] = -1 := by rw [Lib.index_one]; rfl

theorem cutL_eq (c : UInt8) : ∀ s : Bytes, cutL c s = Lib.cut s [c]
  | [] => by unfold Lib.cut; rw [index_nil]; rfl
  | b :: r => by
    have ih := cutL_eq c r
    have hge := Lib.index_ge r [c]
    unfold cutL
    unfold Lib.cut at ih ⊢
    rw [index_cons]
    by_cases h : b = c
    · subst h; simp
    · have hb : (b == c) = false := by simpa using h
      rw [hb, ih, if_neg h]
      simp only
      by_cases h1 : Lib.index r [c] = -1
      · rw [h1]; simp
      · rw [if_neg h1, if_pos (by omega : 0 ≤ Lib.index r [c]), if_pos (by omega : 0 ≤ Lib.index r [c] + 1)]
        have e : (Lib.index r [c] + 1).toNat = (Lib.index r [c]).toNat + 1 := by omega
        rw [e]
        simp only [List.take_succ_cons, List.length_cons, List.length_nil, Nat.zero_add, List.drop_succ_cons]

theorem splitK_all (c : UInt8) : ∀ (k : Nat) (s : Bytes), s.count c ≤ k → Lib.splitK [c] 0 k s = splitL c s
  | 0, s, h => by
    unfold Lib.splitK
    induction s with
    | nil => rfl
    | cons b r ih =>
      have hb : ¬ b = c := by rintro rfl; simp at h
      have hr : r.count c ≤ 0 := by rw [List.count_cons] at h; omega
      unfold splitL
      rw [show (b == c) = false by simpa using hb, ← ih hr]
  | k + 1, s, h => by
    induction s with
    | nil => unfold Lib.splitK; rw [index_nil]; rfl
    | cons b r ih =>
      unfold Lib.splitK splitL
      rw [index_cons]
      by_cases hb : b = c
      · subst hb
        rw [if_pos rfl, beq_self_eq_true]
        simp only
        have hr : r.count b ≤ k := by rw [List.count_cons_self] at h; omega
        rw [if_neg (by decide)]
        simp only [Int.toNat_zero, Nat.zero_add, List.length_cons, List.length_nil, List.drop_succ_cons, List.drop_zero, List.take_zero]
        rw [splitK_all b k r hr]
      · have hr : r.count c ≤ k + 1 := by rw [List.count_cons] at h; omega
        have ih := ih hr
        rw [show (b == c) = false by simpa using hb, if_neg hb, ← ih]
        simp only
        have hge := Lib.index_ge r [c]
        rw [Lib.splitK]
        by_cases h1 : Lib.index r [c] = -1
        · rw [h1]; rfl
        · rw [if_neg h1, if_neg (by simp; omega), if_neg (by simp; omega)]
          have e : (Lib.index r [c] + 1).toNat = (Lib.index r [c]).toNat + 1 := by omega
          rw [e]
          simp only [Nat.add_zero, List.take_succ_cons, List.length_cons, List.length_nil, Nat.zero_add, List.drop_succ_cons]
end Go.Proofs.YtecdcnacjlcjoaaDoor.Job

/-
  DERIVED: THE SHELF's CONTRACTS AT THIS DUMP, IN PLAIN WORDS (tools/lay-plain.mjs out of 'TrydShelf.lean', which tools/lay-shelf.mjs wrote): THE SAME DECLARATIONS UNDER THE SAME NAMES: 'import', 'namespace', 'open', 'def', 'theorem' AND NOTHING ELSE: no command of the shelf's: FOR A HAND-IN. Each laying: the table of numbers ('.._ren') and one theorem, a field a fact of the dump's own or the kernel's comparison; each contract: ONE APPLICATION.
-/
namespace Go.Proofs
open Go.Shelf
def Tryd.lays283_ren : Go.Shelf.Ren := ⟨fun | 283 => 57 | n => n, fun | 3 => 3 | 9 => 9 | 4 => 4 | n => n, fun | n => n⟩
theorem Tryd.lays283 : Go.Proofs.Lays.n283 Tryd.prog Tryd.lays283_ren := {
  mixed := by kernel_rfl
  f283 := Tryd.func57.trans (congrArg some (by kernel_rfl))
  t3 := Tryd.underlying3
  a3 := Tryd.isAgg3
  z3 := Tryd.sizeOf3
  v3 := Tryd.zeroValue3
  t4 := Tryd.underlying4
  a4 := Tryd.isAgg4
  z4 := Tryd.sizeOf4
  v4 := Tryd.zeroValue4
  t9 := Tryd.underlying9
  a9 := Tryd.isAgg9
  z9 := Tryd.sizeOf9
  v9 := Tryd.zeroValue9 }
open Go.Lib in
/-- internal/strconv.small: "small returns the string for an i with 0 <= i < nSmalls.": i's decimal numeral. The world is as it was. (LAID: no walk: one application.) -/
theorem Tryd.internal_strconv_small (i : Nat) (h : i < 100) (w : World) :
    Calls Tryd.prog 57 #[.int .i64 i] w fun e w' => e = .returned (.string ⟨(Lib.decDigits i).toArray⟩) ∧ w' = w := Any.internal_strconv_small Tryd.lays283 i h w
def Tryd.laysM284_ren : Go.Shelf.Ren := ⟨fun | 284 => 58 | 129 => 70 | 317 => 69 | 318 => 71 | n => n, fun | 53 => 84 | 3 => 3 | 212 => 107 | 0 => 0 | 4 => 4 | 46 => 111 | 5 => 5 | 9 => 9 | n => n, fun | 17 => 0 | n => n⟩
theorem Tryd.laysM284 : Go.Proofs.LaysM.n284 Tryd.prog Tryd.laysM284_ren := {
  mixed := by kernel_rfl
  f129 := Tryd.func70.trans (congrArg some (by kernel_rfl))
  f284 := Tryd.func58.trans (congrArg some (by kernel_rfl))
  f317 := Tryd.func69.trans (congrArg some (by kernel_rfl))
  f318 := Tryd.func71.trans (congrArg some (by kernel_rfl))
  t0 := Tryd.underlying0
  a0 := Tryd.isAgg0
  z0 := Tryd.sizeOf0
  v0 := Tryd.zeroValue0
  t3 := Tryd.underlying3
  a3 := Tryd.isAgg3
  z3 := Tryd.sizeOf3
  v3 := Tryd.zeroValue3
  t4 := Tryd.underlying4
  a4 := Tryd.isAgg4
  z4 := Tryd.sizeOf4
  v4 := Tryd.zeroValue4
  t5 := Tryd.underlying5
  a5 := Tryd.isAgg5
  z5 := Tryd.sizeOf5
  v5 := Tryd.zeroValue5
  t9 := Tryd.underlying9
  a9 := Tryd.isAgg9
  z9 := Tryd.sizeOf9
  v9 := Tryd.zeroValue9
  t46 := Tryd.underlying111
  a46 := Tryd.isAgg111
  z46 := Tryd.sizeOf111
  v46 := Tryd.zeroValue111
  t53 := Tryd.underlying84
  a53 := Tryd.isAgg84
  z53 := Tryd.sizeOf84
  v53 := Tryd.zeroValue84
  t212 := Tryd.underlying107
  a212 := Tryd.isAgg107
  z212 := Tryd.sizeOf107
  v212 := Tryd.zeroValue107
  g17 := by kernel_rfl
  i0 := by kernel_rfl
  i3 := by kernel_rfl
  i4 := by kernel_rfl
  i5 := by kernel_rfl
  i9 := by kernel_rfl
  i46 := by kernel_rfl
  i53 := by kernel_rfl
  i212 := by kernel_rfl
  m17 := by kernel_rfl }
open Go.Lib in
/-- internal/strconv.numDigits, at a d that is not 0: THE NUMBER OF d's DECIMAL DIGITS. The world is as it was. (LAID: no walk: one application.) -/
theorem Tryd.internal_strconv_numDigits (u : Nat) (h1 : 1 ≤ u) (h2 : u < 18446744073709551616) (w : World) (htab : Lib.TabIs Tryd.prog w "internal/strconv.uint64pow10" .u64 Lib.pow10Tab) :
    Calls Tryd.prog 58 #[.int .u64 u] w fun e w' => e = .returned (.int .i64 (Lib.nDigits u)) ∧ w' = w := Any.internal_strconv_numDigits Tryd.laysM284 u h1 h2 w htab
def Tryd.lays285_ren : Go.Shelf.Ren := ⟨fun | 285 => 59 | n => n, fun | 37 => 79 | 53 => 84 | 3 => 3 | 4 => 4 | 51 => 108 | 9 => 9 | 5 => 5 | 0 => 0 | n => n, fun | n => n⟩
theorem Tryd.lays285 : Go.Proofs.Lays.n285 Tryd.prog Tryd.lays285_ren := {
  mixed := by kernel_rfl
  f285 := Tryd.func59.trans (congrArg some (by kernel_rfl))
  t0 := Tryd.underlying0
  a0 := Tryd.isAgg0
  z0 := Tryd.sizeOf0
  v0 := Tryd.zeroValue0
  t3 := Tryd.underlying3
  a3 := Tryd.isAgg3
  z3 := Tryd.sizeOf3
  v3 := Tryd.zeroValue3
  t4 := Tryd.underlying4
  a4 := Tryd.isAgg4
  z4 := Tryd.sizeOf4
  v4 := Tryd.zeroValue4
  t5 := Tryd.underlying5
  a5 := Tryd.isAgg5
  z5 := Tryd.sizeOf5
  v5 := Tryd.zeroValue5
  t9 := Tryd.underlying9
  a9 := Tryd.isAgg9
  z9 := Tryd.sizeOf9
  v9 := Tryd.zeroValue9
  t37 := Tryd.underlying79
  a37 := Tryd.isAgg79
  z37 := Tryd.sizeOf79
  v37 := Tryd.zeroValue79
  t51 := Tryd.underlying108
  a51 := Tryd.isAgg108
  z51 := Tryd.sizeOf108
  v51 := Tryd.zeroValue108
  t53 := Tryd.underlying84
  a53 := Tryd.isAgg84
  z53 := Tryd.sizeOf84
  v53 := Tryd.zeroValue84 }
open Go.RowKit Go.Sort Go.Lib in
/-- internal/strconv.formatBase10: "formatBase10 formats the decimal representation of u into a. The caller is responsible for ensuring that a is big enough to hold u. If a is too big, leading zeros will be filled in as needed.": THE ROW HOLDS u's DIGITS ('FmtInv .. 0 ..': every place t holds 'dg u (len - 1 - t)'); all else is as it was but for the count of draws. (LAID: no walk: one application.) -/
theorem Tryd.internal_strconv_formatBase10 (blk off cap : Nat) (u : Nat) (d : Array UInt8) (w : World) (hH : Holds (fun (b : UInt8) => Value.int .u8 (b.toNat : Int)) w blk off d) (hu : u < 10 ^ d.size) (hu64 : u < 18446744073709551616) (hsz : d.size < 4611686018427387904) :
    Calls Tryd.prog 59 #[.slice (some ⟨blk, off, none⟩) d.size cap, .int .u64 u] w fun e w' =>
      e = .returned (.tuple #[]) ∧ ∃ (n v' : Nat) (dk : Array UInt8), w' = (putRow (fun (b : UInt8) => Value.int .u8 (b.toNat : Int)) w blk off dk).drewN n ∧ FmtInv d.size u 0 v' dk := Any.internal_strconv_formatBase10 Tryd.lays285 blk off cap u d w hH hu hu64 hsz
def Tryd.laysM173_ren : Go.Shelf.Ren := ⟨fun | 173 => 28 | 246 => 45 | 283 => 57 | 284 => 58 | 285 => 59 | 286 => 60 | 129 => 70 | 317 => 69 | 318 => 71 | 319 => 72 | 320 => 73 | 337 => 92 | 338 => 93 | n => n, fun | 2 => 2 | 3 => 3 | 9 => 9 | 4 => 4 | 171 => 91 | 0 => 0 | 53 => 84 | 37 => 79 | 5 => 5 | 173 => 94 | 212 => 107 | 51 => 108 | 20 => 20 | 213 => 109 | 46 => 111 | 232 => 134 | 233 => 135 | n => n, fun | 17 => 0 | 18 => 6 | 19 => 7 | n => n⟩
theorem Tryd.laysM173 : Go.Proofs.LaysM.n173 Tryd.prog Tryd.laysM173_ren := {
  mixed := by kernel_rfl
  f129 := Tryd.func70.trans (congrArg some (by kernel_rfl))
  f173 := Tryd.func28.trans (congrArg some (by kernel_rfl))
  f246 := Tryd.func45.trans (congrArg some (by kernel_rfl))
  f283 := Tryd.func57.trans (congrArg some (by kernel_rfl))
  f284 := Tryd.func58.trans (congrArg some (by kernel_rfl))
  f285 := Tryd.func59.trans (congrArg some (by kernel_rfl))
  f286 := Tryd.func60.trans (congrArg some (by kernel_rfl))
  f317 := Tryd.func69.trans (congrArg some (by kernel_rfl))
  f318 := Tryd.func71.trans (congrArg some (by kernel_rfl))
  f319 := Tryd.func72.trans (congrArg some (by kernel_rfl))
  f320 := Tryd.func73.trans (congrArg some (by kernel_rfl))
  f337 := Tryd.func92.trans (congrArg some (by kernel_rfl))
  f338 := Tryd.func93.trans (congrArg some (by kernel_rfl))
  t0 := Tryd.underlying0
  a0 := Tryd.isAgg0
  z0 := Tryd.sizeOf0
  v0 := Tryd.zeroValue0
  t2 := Tryd.underlying2
  a2 := Tryd.isAgg2
  z2 := Tryd.sizeOf2
  v2 := Tryd.zeroValue2
  t3 := Tryd.underlying3
  a3 := Tryd.isAgg3
  z3 := Tryd.sizeOf3
  v3 := Tryd.zeroValue3
  t4 := Tryd.underlying4
  a4 := Tryd.isAgg4
  z4 := Tryd.sizeOf4
  v4 := Tryd.zeroValue4
  t5 := Tryd.underlying5
  a5 := Tryd.isAgg5
  z5 := Tryd.sizeOf5
  v5 := Tryd.zeroValue5
  t9 := Tryd.underlying9
  a9 := Tryd.isAgg9
  z9 := Tryd.sizeOf9
  v9 := Tryd.zeroValue9
  t20 := Tryd.underlying20
  a20 := Tryd.isAgg20
  z20 := Tryd.sizeOf20
  v20 := Tryd.zeroValue20
  t37 := Tryd.underlying79
  a37 := Tryd.isAgg79
  z37 := Tryd.sizeOf79
  v37 := Tryd.zeroValue79
  t46 := Tryd.underlying111
  a46 := Tryd.isAgg111
  z46 := Tryd.sizeOf111
  v46 := Tryd.zeroValue111
  t51 := Tryd.underlying108
  a51 := Tryd.isAgg108
  z51 := Tryd.sizeOf108
  v51 := Tryd.zeroValue108
  t53 := Tryd.underlying84
  a53 := Tryd.isAgg84
  z53 := Tryd.sizeOf84
  v53 := Tryd.zeroValue84
  t171 := Tryd.underlying91
  a171 := Tryd.isAgg91
  z171 := Tryd.sizeOf91
  v171 := Tryd.zeroValue91
  t173 := Tryd.underlying94
  a173 := Tryd.isAgg94
  z173 := Tryd.sizeOf94
  v173 := Tryd.zeroValue94
  t212 := Tryd.underlying107
  a212 := Tryd.isAgg107
  z212 := Tryd.sizeOf107
  v212 := Tryd.zeroValue107
  t213 := Tryd.underlying109
  a213 := Tryd.isAgg109
  z213 := Tryd.sizeOf109
  t232 := Tryd.underlying134
  a232 := Tryd.isAgg134
  z232 := Tryd.sizeOf134
  v232 := Tryd.zeroValue134
  t233 := Tryd.underlying135
  a233 := Tryd.isAgg135
  z233 := Tryd.sizeOf135
  v233 := Tryd.zeroValue135
  g17 := by kernel_rfl
  g18 := by kernel_rfl
  g19 := by kernel_rfl
  i0 := by kernel_rfl
  i2 := by kernel_rfl
  i3 := by kernel_rfl
  i4 := by kernel_rfl
  i5 := by kernel_rfl
  i9 := by kernel_rfl
  i20 := by kernel_rfl
  i37 := by kernel_rfl
  i46 := by kernel_rfl
  i51 := by kernel_rfl
  i53 := by kernel_rfl
  i171 := by kernel_rfl
  i173 := by kernel_rfl
  i212 := by kernel_rfl
  i232 := by kernel_rfl
  i233 := by kernel_rfl
  m17 := by kernel_rfl
  m18 := by kernel_rfl
  m19 := by kernel_rfl }
open Go.RowKit Go.Sort Go.Lib in
/-- strconv.FormatInt: "FormatInt returns the string representation of i in the given base": AT BASE 10: i's decimal numeral, for every int64. (LAID: no walk: one application.) -/
theorem Tryd.strconv_FormatInt_10 (n : Int) (h0 : -9223372036854775808 ≤ n) (h1 : n ≤ 9223372036854775807) (w : World) (htab : Lib.TabIs Tryd.prog w "internal/strconv.uint64pow10" .u64 Lib.pow10Tab) :
    Calls Tryd.prog 28 #[.int .i64 n, .int .i64 10] w fun e w' => e = .returned (.string ⟨(Lib.itoa n).toArray⟩) ∧ ∃ k os, w' = grow (w.drewN k) os := Any.strconv_FormatInt_10 Tryd.laysM173 n h0 h1 w htab
def Tryd.laysPu14_ren : Go.Shelf.Ren := ⟨fun | 14 => 54 | 16 => 66 | 17 => 67 | 19 => 86 | 20 => 87 | 21 => 88 | 22 => 89 | 23 => 90 | 24 => 91 | 25 => 96 | 27 => 98 | 26 => 97 | 28 => 99 | 29 => 45 | 30 => 57 | 31 => 58 | 32 => 59 | 33 => 60 | 35 => 70 | 34 => 69 | 36 => 71 | 37 => 72 | 38 => 73 | 39 => 92 | 40 => 93 | n => n, fun | 9 => 9 | 3 => 3 | 22 => 84 | 24 => 86 | 25 => 87 | 4 => 4 | 34 => 118 | 5 => 5 | 36 => 111 | 37 => 79 | 0 => 0 | 39 => 120 | 21 => 21 | 44 => 132 | 47 => 136 | 50 => 139 | 48 => 137 | 2 => 2 | 52 => 91 | 55 => 94 | 59 => 107 | 60 => 108 | 20 => 20 | 61 => 109 | 65 => 134 | 66 => 135 | 67 => 42 | n => n, fun | 0 => 4 | 1 => 5 | 2 => 0 | 3 => 6 | 4 => 7 | n => n⟩
theorem Tryd.laysPu14 : Go.Proofs.LaysPu.n14 Tryd.prog Tryd.laysPu14_ren := {
  mixed := by kernel_rfl
  f14 := Tryd.func54.trans (congrArg some (by kernel_rfl))
  f16 := Tryd.func66.trans (congrArg some (by kernel_rfl))
  f17 := Tryd.func67.trans (congrArg some (by kernel_rfl))
  f19 := Tryd.func86.trans (congrArg some (by kernel_rfl))
  f20 := Tryd.func87.trans (congrArg some (by kernel_rfl))
  f21 := Tryd.func88.trans (congrArg some (by kernel_rfl))
  f22 := Tryd.func89.trans (congrArg some (by kernel_rfl))
  f23 := Tryd.func90.trans (congrArg some (by kernel_rfl))
  f24 := Tryd.func91.trans (congrArg some (by kernel_rfl))
  f25 := Tryd.func96.trans (congrArg some (by kernel_rfl))
  f26 := Tryd.func97.trans (congrArg some (by kernel_rfl))
  f27 := Tryd.func98.trans (congrArg some (by kernel_rfl))
  f28 := Tryd.func99.trans (congrArg some (by kernel_rfl))
  f29 := Tryd.func45.trans (congrArg some (by kernel_rfl))
  f30 := Tryd.func57.trans (congrArg some (by kernel_rfl))
  f31 := Tryd.func58.trans (congrArg some (by kernel_rfl))
  f32 := Tryd.func59.trans (congrArg some (by kernel_rfl))
  f33 := Tryd.func60.trans (congrArg some (by kernel_rfl))
  f34 := Tryd.func69.trans (congrArg some (by kernel_rfl))
  f35 := Tryd.func70.trans (congrArg some (by kernel_rfl))
  f36 := Tryd.func71.trans (congrArg some (by kernel_rfl))
  f37 := Tryd.func72.trans (congrArg some (by kernel_rfl))
  f38 := Tryd.func73.trans (congrArg some (by kernel_rfl))
  f39 := Tryd.func92.trans (congrArg some (by kernel_rfl))
  f40 := Tryd.func93.trans (congrArg some (by kernel_rfl))
  t0 := Tryd.underlying0
  a0 := Tryd.isAgg0
  z0 := Tryd.sizeOf0
  v0 := Tryd.zeroValue0
  i0 := by kernel_rfl
  t2 := Tryd.underlying2
  a2 := Tryd.isAgg2
  z2 := Tryd.sizeOf2
  v2 := Tryd.zeroValue2
  i2 := by kernel_rfl
  t3 := Tryd.underlying3
  a3 := Tryd.isAgg3
  z3 := Tryd.sizeOf3
  v3 := Tryd.zeroValue3
  i3 := by kernel_rfl
  t4 := Tryd.underlying4
  a4 := Tryd.isAgg4
  z4 := Tryd.sizeOf4
  v4 := Tryd.zeroValue4
  i4 := by kernel_rfl
  t5 := Tryd.underlying5
  a5 := Tryd.isAgg5
  z5 := Tryd.sizeOf5
  v5 := Tryd.zeroValue5
  i5 := by kernel_rfl
  t9 := Tryd.underlying9
  a9 := Tryd.isAgg9
  z9 := Tryd.sizeOf9
  v9 := Tryd.zeroValue9
  i9 := by kernel_rfl
  t20 := Tryd.underlying20
  a20 := Tryd.isAgg20
  z20 := Tryd.sizeOf20
  v20 := Tryd.zeroValue20
  i20 := by kernel_rfl
  t21 := Tryd.underlying21
  a21 := Tryd.isAgg21
  z21 := Tryd.sizeOf21
  v21 := Tryd.zeroValue21
  i21 := by kernel_rfl
  t22 := Tryd.underlying84
  a22 := Tryd.isAgg84
  z22 := Tryd.sizeOf84
  v22 := Tryd.zeroValue84
  i22 := by kernel_rfl
  t24 := Tryd.underlying86
  a24 := Tryd.isAgg86
  z24 := Tryd.sizeOf86
  v24 := Tryd.zeroValue86
  i24 := by kernel_rfl
  t25 := Tryd.underlying87
  a25 := Tryd.isAgg87
  z25 := Tryd.sizeOf87
  v25 := Tryd.zeroValue87
  i25 := by kernel_rfl
  t34 := Tryd.underlying118
  a34 := Tryd.isAgg118
  z34 := Tryd.sizeOf118
  v34 := Tryd.zeroValue118
  i34 := by kernel_rfl
  c34 := by kernel_rfl
  t36 := Tryd.underlying111
  a36 := Tryd.isAgg111
  z36 := Tryd.sizeOf111
  v36 := Tryd.zeroValue111
  i36 := by kernel_rfl
  t37 := Tryd.underlying79
  a37 := Tryd.isAgg79
  z37 := Tryd.sizeOf79
  v37 := Tryd.zeroValue79
  i37 := by kernel_rfl
  t39 := Tryd.underlying120
  a39 := Tryd.isAgg120
  z39 := Tryd.sizeOf120
  v39 := Tryd.zeroValue120
  i39 := by kernel_rfl
  t44 := Tryd.underlying132
  a44 := Tryd.isAgg132
  z44 := Tryd.sizeOf132
  v44 := Tryd.zeroValue132
  i44 := by kernel_rfl
  t47 := Tryd.underlying136
  a47 := Tryd.isAgg136
  z47 := Tryd.sizeOf136
  v47 := Tryd.zeroValue136
  i47 := by kernel_rfl
  t48 := Tryd.underlying137
  a48 := Tryd.isAgg137
  z48 := Tryd.sizeOf137
  v48 := Tryd.zeroValue137
  i48 := by kernel_rfl
  t50 := Tryd.underlying139
  a50 := Tryd.isAgg139
  z50 := Tryd.sizeOf139
  v50 := Tryd.zeroValue139
  i50 := by kernel_rfl
  t52 := Tryd.underlying91
  a52 := Tryd.isAgg91
  z52 := Tryd.sizeOf91
  v52 := Tryd.zeroValue91
  i52 := by kernel_rfl
  t55 := Tryd.underlying94
  a55 := Tryd.isAgg94
  z55 := Tryd.sizeOf94
  v55 := Tryd.zeroValue94
  i55 := by kernel_rfl
  t59 := Tryd.underlying107
  a59 := Tryd.isAgg107
  z59 := Tryd.sizeOf107
  v59 := Tryd.zeroValue107
  i59 := by kernel_rfl
  t60 := Tryd.underlying108
  a60 := Tryd.isAgg108
  z60 := Tryd.sizeOf108
  v60 := Tryd.zeroValue108
  i60 := by kernel_rfl
  t61 := Tryd.underlying109
  a61 := Tryd.isAgg109
  z61 := Tryd.sizeOf109
  t65 := Tryd.underlying134
  a65 := Tryd.isAgg134
  z65 := Tryd.sizeOf134
  v65 := Tryd.zeroValue134
  i65 := by kernel_rfl
  t66 := Tryd.underlying135
  a66 := Tryd.isAgg135
  z66 := Tryd.sizeOf135
  v66 := Tryd.zeroValue135
  i66 := by kernel_rfl
  t67 := Tryd.underlying42
  a67 := Tryd.isAgg42
  z67 := Tryd.sizeOf42
  v67 := Tryd.zeroValue42
  i67 := by kernel_rfl
  g0 := by kernel_rfl
  m0 := by kernel_rfl
  g1 := by kernel_rfl
  m1 := by kernel_rfl
  g2 := by kernel_rfl
  m2 := by kernel_rfl
  g3 := by kernel_rfl
  m3 := by kernel_rfl
  g4 := by kernel_rfl
  m4 := by kernel_rfl }
open Go.RowKit in
/-- strconv.ParseUint(s, 10, 64), AT EVERY STRING THAT SPELLS A uint64 ('Lib.parseUintB 64 s.data.toList = .ok u'): u, AND NO ERROR. (LAID: no walk: one application.) -/
theorem Tryd.strconv_ParseUint_10_at64_ok (s : ByteArray) (hmax : s.size ≤ 9223372036854775806) (u : Nat) (h : Lib.parseUintB 64 s.data.toList = .ok u) (w : World) :
    Calls Tryd.prog 54 #[.string s, .int .i64 10, .int .i64 64] w fun e w' => e = .returned (.tuple #[.int .u64 u, .nilIface]) ∧ (w' = w ∨ w' = Lib.bytesWorld w 5 s) := Any.strconv_ParseUint_10_at64_ok Tryd.laysPu14 s hmax u h w
open Go.RowKit in
theorem Tryd.strconv_ParseUint_10_at64_syntax_var (s : ByteArray) (hlim : s.size ≤ 281474976710656) (h : Lib.parseUintB 64 s.data.toList = Lib.NumEnd.syntax) (tp : TypeId) (p : Value) (w : World) (hvar : w.var? Tryd.prog "strconv.ErrSyntax" = some #[.iface tp p]) :
    Calls Tryd.prog 54 #[.string s, .int .i64 10, .int .i64 64] w fun e w' => ∃ N, e = .returned (.tuple #[.int .u64 0, .iface 120 (.pointer (some ⟨N, 0, none⟩))]) ∧ w.heap.size ≤ N ∧ w'.heap[N]? = some (.cells #[.string ⟨#[80, 97, 114, 115, 101, 85, 105, 110, 116]⟩, .string s, .iface tp p] 132 (0, 0)) ∧ Below w.heap.size w w' := Any.strconv_ParseUint_10_at64_syntax_var Tryd.laysPu14 s hlim h tp p w hvar
open Go.RowKit in
theorem Tryd.strconv_ParseUint_10_at64_range_var (s : ByteArray) (hlim : s.size ≤ 281474976710656) (h : Lib.parseUintB 64 s.data.toList = .range) (tp : TypeId) (p : Value) (w : World) (hvar : w.var? Tryd.prog "strconv.ErrRange" = some #[.iface tp p]) :
    Calls Tryd.prog 54 #[.string s, .int .i64 10, .int .i64 64] w fun e w' => ∃ N, e = .returned (.tuple #[.int .u64 18446744073709551615, .iface 120 (.pointer (some ⟨N, 0, none⟩))]) ∧ w.heap.size ≤ N ∧ w'.heap[N]? = some (.cells #[.string ⟨#[80, 97, 114, 115, 101, 85, 105, 110, 116]⟩, .string s, .iface tp p] 132 (0, 0)) ∧ Below w.heap.size w w' := Any.strconv_ParseUint_10_at64_range_var Tryd.laysPu14 s hlim h tp p w hvar
def Tryd.lays145_ren : Go.Shelf.Ren := ⟨fun | 145 => 38 | 220 => 50 | 219 => 62 | 217 => 81 | 225 => 82 | 224 => 83 | 267 => 84 | 266 => 94 | 314 => 95 | n => n, fun | 9 => 9 | 4 => 4 | 59 => 69 | 3 => 3 | 5 => 5 | 46 => 111 | 146 => 124 | 51 => 108 | n => n, fun | 1 => 1 | n => n⟩
theorem Tryd.lays145 : Go.Proofs.Lays.n145 Tryd.prog Tryd.lays145_ren := {
  mixed := by kernel_rfl
  f145 := Tryd.func38.trans (congrArg some (by kernel_rfl))
  f217 := Tryd.func81.trans (congrArg some (by kernel_rfl))
  f219 := Tryd.func62.trans (congrArg some (by kernel_rfl))
  f220 := Tryd.func50.trans (congrArg some (by kernel_rfl))
  f224 := Tryd.func83.trans (congrArg some (by kernel_rfl))
  f225 := Tryd.func82.trans (congrArg some (by kernel_rfl))
  f266 := Tryd.func94.trans (congrArg some (by kernel_rfl))
  f267 := Tryd.func84.trans (congrArg some (by kernel_rfl))
  f314 := Tryd.func95.trans (congrArg some (by kernel_rfl))
  t3 := Tryd.underlying3
  a3 := Tryd.isAgg3
  z3 := Tryd.sizeOf3
  v3 := Tryd.zeroValue3
  t4 := Tryd.underlying4
  a4 := Tryd.isAgg4
  z4 := Tryd.sizeOf4
  v4 := Tryd.zeroValue4
  t5 := Tryd.underlying5
  a5 := Tryd.isAgg5
  z5 := Tryd.sizeOf5
  v5 := Tryd.zeroValue5
  t9 := Tryd.underlying9
  a9 := Tryd.isAgg9
  z9 := Tryd.sizeOf9
  v9 := Tryd.zeroValue9
  t46 := Tryd.underlying111
  a46 := Tryd.isAgg111
  z46 := Tryd.sizeOf111
  v46 := Tryd.zeroValue111
  t51 := Tryd.underlying108
  a51 := Tryd.isAgg108
  z51 := Tryd.sizeOf108
  v51 := Tryd.zeroValue108
  t59 := Tryd.underlying69
  a59 := Tryd.isAgg69
  z59 := Tryd.sizeOf69
  v59 := Tryd.zeroValue69
  t146 := Tryd.underlying124
  a146 := Tryd.isAgg124
  z146 := Tryd.sizeOf124
  v146 := Tryd.zeroValue124
  g1 := by kernel_rfl }
open Go.RowKit Go.Lib in
/-- strings.Cut: "Cut slices s around the first instance of sep, returning the text before and after sep. The found result reports whether sep appears in s. If sep does not appear in s, cut returns s, "", false.": IT RETURNS 'Lib.cut s sep'; the world is as it was but for the count of draws. (LAID: no walk: one application.) -/
theorem Tryd.strings_Cut (s sep : ByteArray) (m : Int) (w : World) (hs : s.size < 4294967281) (hm : w.cell? ⟨1, 0, none⟩ = some (.int .i64 m)) :
    Calls Tryd.prog 38 #[.string s, .string sep] w fun e w' => e = .returned (.tuple #[.string ⟨(Lib.cut s.data.toList sep.data.toList).1.toArray⟩, .string ⟨(Lib.cut s.data.toList sep.data.toList).2.1.toArray⟩, .bool (Lib.cut s.data.toList sep.data.toList).2.2]) ∧ ∃ n, w' = w.drewN n := Any.strings_Cut Tryd.lays145 s sep m w hs hm
def Tryd.lays146_ren : Go.Shelf.Ren := ⟨fun | 146 => 20 | 221 => 39 | 268 => 51 | 138 => 52 | 143 => 53 | 195 => 63 | 197 => 64 | 218 => 65 | 219 => 62 | 260 => 85 | 217 => 81 | 225 => 82 | 224 => 83 | 267 => 84 | 266 => 94 | 314 => 95 | n => n, fun | 9 => 9 | 31 => 46 | 3 => 3 | 4 => 4 | 0 => 0 | 105 => 102 | 21 => 21 | 5 => 5 | 46 => 111 | 119 => 126 | 139 => 129 | 138 => 128 | 146 => 124 | 51 => 108 | n => n, fun | 1 => 1 | 3 => 2 | 4 => 3 | n => n⟩
theorem Tryd.lays146 : Go.Proofs.Lays.n146 Tryd.prog Tryd.lays146_ren := {
  mixed := by kernel_rfl
  f138 := Tryd.func52.trans (congrArg some (by kernel_rfl))
  f143 := Tryd.func53.trans (congrArg some (by kernel_rfl))
  f146 := Tryd.func20.trans (congrArg some (by kernel_rfl))
  f195 := Tryd.func63.trans (congrArg some (by kernel_rfl))
  f197 := Tryd.func64.trans (congrArg some (by kernel_rfl))
  f217 := Tryd.func81.trans (congrArg some (by kernel_rfl))
  f218 := Tryd.func65.trans (congrArg some (by kernel_rfl))
  f219 := Tryd.func62.trans (congrArg some (by kernel_rfl))
  f221 := Tryd.func39.trans (congrArg some (by kernel_rfl))
  f224 := Tryd.func83.trans (congrArg some (by kernel_rfl))
  f225 := Tryd.func82.trans (congrArg some (by kernel_rfl))
  f260 := Tryd.func85.trans (congrArg some (by kernel_rfl))
  f266 := Tryd.func94.trans (congrArg some (by kernel_rfl))
  f267 := Tryd.func84.trans (congrArg some (by kernel_rfl))
  f268 := Tryd.func51.trans (congrArg some (by kernel_rfl))
  f314 := Tryd.func95.trans (congrArg some (by kernel_rfl))
  t0 := Tryd.underlying0
  a0 := Tryd.isAgg0
  z0 := Tryd.sizeOf0
  v0 := Tryd.zeroValue0
  t3 := Tryd.underlying3
  a3 := Tryd.isAgg3
  z3 := Tryd.sizeOf3
  v3 := Tryd.zeroValue3
  t4 := Tryd.underlying4
  a4 := Tryd.isAgg4
  z4 := Tryd.sizeOf4
  v4 := Tryd.zeroValue4
  t5 := Tryd.underlying5
  a5 := Tryd.isAgg5
  z5 := Tryd.sizeOf5
  v5 := Tryd.zeroValue5
  t9 := Tryd.underlying9
  a9 := Tryd.isAgg9
  z9 := Tryd.sizeOf9
  v9 := Tryd.zeroValue9
  t21 := Tryd.underlying21
  a21 := Tryd.isAgg21
  z21 := Tryd.sizeOf21
  v21 := Tryd.zeroValue21
  t31 := Tryd.underlying46
  a31 := Tryd.isAgg46
  z31 := Tryd.sizeOf46
  v31 := Tryd.zeroValue46
  t46 := Tryd.underlying111
  a46 := Tryd.isAgg111
  z46 := Tryd.sizeOf111
  v46 := Tryd.zeroValue111
  t51 := Tryd.underlying108
  a51 := Tryd.isAgg108
  z51 := Tryd.sizeOf108
  v51 := Tryd.zeroValue108
  t105 := Tryd.underlying102
  a105 := Tryd.isAgg102
  z105 := Tryd.sizeOf102
  v105 := Tryd.zeroValue102
  t119 := Tryd.underlying126
  a119 := Tryd.isAgg126
  z119 := Tryd.sizeOf126
  t138 := Tryd.underlying128
  a138 := Tryd.isAgg128
  z138 := Tryd.sizeOf128
  v138 := Tryd.zeroValue128
  t139 := Tryd.underlying129
  a139 := Tryd.isAgg129
  z139 := Tryd.sizeOf129
  v139 := Tryd.zeroValue129
  t146 := Tryd.underlying124
  a146 := Tryd.isAgg124
  z146 := Tryd.sizeOf124
  v146 := Tryd.zeroValue124
  g1 := by kernel_rfl
  g3 := by kernel_rfl
  g4 := by kernel_rfl }
open Go.RowKit Go.Lib in
/-- strings.Split. (LAID: no walk: one application.) -/
theorem Tryd.strings_Split (s sep : ByteArray) (m : Int) (w : World) (hs : s.size < 4294967281) (hm : w.cell? ⟨1, 0, none⟩ = some (.int .i64 m)) (h1 : 1 ≤ sep.size) :
    Calls Tryd.prog 20 #[.string s, .string sep] w fun e w' =>
      e = .returned (.slice (some ⟨w.heap.size, 0, none⟩) (Lib.countB s sep + 1) (Lib.countB s sep + 1)) ∧ w' = w.alloc (.cells ((Lib.splitB sep 0 (Lib.countB s sep) s).map Value.string).toArray 9) := Any.strings_Split Tryd.lays146 (by kernel_rfl) s sep m w hs hm h1
end Go.Proofs

/- Job: strconv.FormatUint at base 10, walked: a number's digits. (After the shelf's own walk of FormatInt.) -/
namespace Go.Proofs.YtecdcnacjlcjoaaDoor.Job
open Go.Shelf Go.RowKit Go.Sort Go.Lib

set_option maxHeartbeats 6400000 in
set_option maxRecDepth 100000 in
theorem fmtU_inner (u : Nat) (hu64 : u < 18446744073709551616) (w : World) (htab : Lib.TabIs Tryd.prog w "internal/strconv.uint64pow10" .u64 Lib.pow10Tab) :
    Calls Tryd.prog 68 #[.int .u64 u, .int .i64 10] w fun e w' => e = .returned (.string ⟨(Lib.decDigits u).toArray⟩) ∧ ∃ k os, w' = grow (w.drewN k) os := by
  by_cases hs : u < 100
  · go_enter Tryd.func68, Tryd.ntmps68
    go_wp2_with (go_at_call 57; refine (Tryd.internal_strconv_small u hs _).mono ?_; rintro e w' ⟨rfl, rfl⟩)
    go_ret
    exact ⟨rfl, 0, #[], by simp [World.drewN_zero]⟩
  · have hu1 : 1 ≤ u := by omega
    have hnd20 : Lib.nDigits u ≤ 20 := by have := Lib.numDigits_eq u hu1 hu64; split at this <;> omega
    have hb3 : Lib.nDigits u ≤ 24 := by omega
    have hal : Tryd.prog.arrayLen 91 = 24 := by simp [Program.arrayLen, Tryd.underlying91]
    have hsl1 : ∀ W, (Instr.sliceAt 91 (.pointer (some ⟨w.heap.size, 0, none⟩)) none (some (.int .i64 (Lib.nDigits u : Int))) none).run Tryd.prog W = .ok (.slice (some ⟨w.heap.size, 0, none⟩) (Lib.nDigits u) 24) W := fun W => by
      rw [run_sliceAt_array_h W 91 ⟨w.heap.size, 0, none⟩ (by simp [Program.arrayLen, Program.elem, Tryd.underlying91]) .i64 (Lib.nDigits u : Int) (by omega) (by rw [hal]; omega)]
      go_simp
    have hH0 := Lib.holds_zero0 w 91 (Lib.nDigits u) (by omega)
    have hfmt := Tryd.internal_strconv_formatBase10 w.heap.size 0 24 u (Array.replicate (Lib.nDigits u) 0) (w.alloc (.cells Lib.zeros24 91)) hH0 (by rw [Array.size_replicate]; exact Lib.lt_pow_nDigits u) hu64 (by rw [Array.size_replicate]; omega)
    rw [Array.size_replicate] at hfmt
    have HH0 := Lib.hid hH0
    clear hH0 hal
    go_enter Tryd.func68, Tryd.ntmps68
    go_wp2_with (first
      | (go_at_call 58; refine (Tryd.internal_strconv_numDigits u hu1 hu64 _ (Lib.tabIs_alloc htab _)).mono ?_; rintro e w' ⟨rfl, rfl⟩))
    go_at_call 59
    refine hfmt.mono ?_
    rintro e w' ⟨rfl, k, v', dk, rfl, hF⟩
    have hcv : (convert 79 9 (.slice (some ⟨w.heap.size, 0, none⟩) (Lib.nDigits u) 24)).run Tryd.prog ((putRow (fun (b : UInt8) => Value.int .u8 (b.toNat : Int)) (w.alloc (.cells Lib.zeros24 91)) w.heap.size 0 dk).drewN k) = .ok (.string ⟨(Lib.decDigits u).toArray⟩) ((putRow (fun (b : UInt8) => Value.int .u8 (b.toNat : Int)) (w.alloc (.cells Lib.zeros24 91)) w.heap.size 0 dk).drewN k) := by
      have h := run_convert_bytes_back (P := Tryd.prog) ((putRow (fun (b : UInt8) => Value.int .u8 (b.toNat : Int)) (w.alloc (.cells Lib.zeros24 91)) w.heap.size 0 dk).drewN k) 79 9 5 ⟨w.heap.size, 0, none⟩ 24 (Lib.decDigits u) Tryd.underlying79 Tryd.underlying5 Tryd.underlying9 (fun j hj => by
        rw [Lib.row_is_numeral hF j hj, Lib.add_plain, World.cell?_drewN]
        exact cell?_putRow (fun (b : UInt8) => Value.int .u8 (b.toNat : Int)) _ w.heap.size 0 _ dk HH0.out (by rw [hF.size, Array.size_replicate]) j (by rw [hF.size]; rw [Lib.decDigits_length] at hj; exact hj))
      rw [Lib.decDigits_length] at h
      exact h
    go_wp2
    go_ret
    obtain ⟨os, eo⟩ := Lib.fin_at w (.cells Lib.zeros24 91) dk k 0
    exact ⟨rfl, k, os, eo⟩

set_option maxRecDepth 100000 in
theorem fmtU (u : Nat) (hu64 : u < 18446744073709551616) (w : World) (htab : Lib.TabIs Tryd.prog w "internal/strconv.uint64pow10" .u64 Lib.pow10Tab) :
    Calls Tryd.prog 55 #[.int .u64 u, .int .i64 10] w fun e w' => e = .returned (.string ⟨(Lib.decDigits u).toArray⟩) ∧ ∃ k os, w' = grow (w.drewN k) os := by
  go_enter Tryd.func55, Tryd.ntmps55
  go_wp2_with (go_at_call 68; refine (fmtU_inner u hu64 _ htab).mono ?_; rintro e w' ⟨rfl, k, os, rfl⟩)
  go_ret
  exact ⟨rfl, k, os, rfl⟩
end Go.Proofs.YtecdcnacjlcjoaaDoor.Job

/- Job: the library's functions by heart, over the shelf's contracts. -/
namespace Go.Proofs.YtecdcnacjlcjoaaDoor.Job
open Go.RowKit
open Am
set_option linter.unusedVariables false
set_option linter.unusedSimpArgs false

/-! ### what is known of the variables -/
theorem tab_of {G : Gh} {w : World} (g : GOk G w) : Lib.TabIs Tryd.prog w "internal/strconv.uint64pow10" .u64 Lib.pow10Tab := by
  obtain ⟨t, fr, h⟩ := g.held.is.1
  have h : w.heap[0]? = _ := h
  have hn : Tryd.prog.globalNamed "internal/strconv.uint64pow10" = some 0 := by kernel_rfl
  unfold Lib.TabIs World.var?
  rw [hn]
  simp only [Option.bind_some]
  rw [h]
theorem max_of {G : Gh} {w : World} (g : GOk G w) : ∃ m, w.cell? ⟨1, 0, none⟩ = some (.int .i64 m) := by
  obtain ⟨cs, t, fr, m, h, hc⟩ := g.held.is.2.1
  have h : w.heap[1]? = _ := h
  refine ⟨m, ?_⟩
  unfold World.cell?
  simp only
  rw [h]
  simpa using hc
theorem syn_of {G : Gh} {w : World} (g : GOk G w) : ∃ tp p, w.var? Tryd.prog "strconv.ErrSyntax" = some #[.iface tp p] := by
  obtain ⟨tp, p, t, fr, h⟩ := g.held.is.2.2.1
  have h : w.heap[4]? = _ := h
  have hn : Tryd.prog.globalNamed "strconv.ErrSyntax" = some 4 := by kernel_rfl
  refine ⟨tp, p, ?_⟩
  unfold World.var?
  rw [hn]
  simp only [Option.bind_some]
  rw [h]
theorem rng_of {G : Gh} {w : World} (g : GOk G w) : ∃ tp p, w.var? Tryd.prog "strconv.ErrRange" = some #[.iface tp p] := by
  obtain ⟨tp, p, t, fr, h⟩ := g.held.is.2.2.2
  have h : w.heap[5]? = _ := h
  have hn : Tryd.prog.globalNamed "strconv.ErrRange" = some 5 := by kernel_rfl
  refine ⟨tp, p, ?_⟩
  unfold World.var?
  rw [hn]
  simp only [Option.bind_some]
  rw [h]

theorem args_two {P : Program} {M : Mem} {a b : AV} {vals : Array Value} (h : ArgsRep P M [a, b] vals) : ∃ v u, vals = #[v, u] ∧ Rep P M a v ∧ Rep P M b u := by
  obtain ⟨h1, h2⟩ := h
  have e : vals.size = 2 := h1
  refine ⟨vals[0], vals[1], ?_, ?_, ?_⟩
  · apply Array.ext
    · simpa using e
    · intro i h3 h4
      have : i = 0 ∨ i = 1 := by simp at h4; omega
      rcases this with rfl | rfl <;> rfl
  · have := h2 0 (by simp); simpa [Array.getD_eq_getD_getElem?, e] using this
  · have := h2 1 (by simp); simpa [Array.getD_eq_getD_getElem?, e] using this
theorem args_three {P : Program} {M : Mem} {a b c : AV} {vals : Array Value} (h : ArgsRep P M [a, b, c] vals) : ∃ v u t, vals = #[v, u, t] ∧ Rep P M a v ∧ Rep P M b u ∧ Rep P M c t := by
  obtain ⟨h1, h2⟩ := h
  have e : vals.size = 3 := h1
  refine ⟨vals[0], vals[1], vals[2], ?_, ?_, ?_, ?_⟩
  · apply Array.ext
    · simpa using e
    · intro i h3 h4
      have : i = 0 ∨ i = 1 ∨ i = 2 := by simp at h4; omega
      rcases this with rfl | rfl | rfl <;> rfl
  · have := h2 0 (by simp); simpa [Array.getD_eq_getD_getElem?, e] using this
  · have := h2 1 (by simp); simpa [Array.getD_eq_getD_getElem?, e] using this
  · have := h2 2 (by simp); simpa [Array.getD_eq_getD_getElem?, e] using this
theorem drew_below (w : World) (n : Nat) : Below w.heap.size w (w.drewN n) := ⟨rfl, rfl, rfl, Nat.le_refl _, fun _ _ => rfl⟩

/-! ### strings.Split, strings.Cut -/
def splitF : List AV → Option AV
  | [.str s, .str [c]] => if s.length < 4294967281 then some (.lst 9 ((splitL c s).map .str) []) else none
  | _ => none
theorem splitB_one (s : ByteArray) (c : UInt8) : (Lib.splitB ⟨⟨[c]⟩⟩ 0 (Lib.countB s ⟨⟨[c]⟩⟩) s).map (·.data.toList) = splitL c s.data.toList := by
  rw [Lib.splitB_data]
  exact splitK_all c _ _ (by show s.data.toList.count c ≤ Lib.count s.data.toList [c]; rw [Lib.count_one]; exact Nat.le_refl _)
theorem flat_strs (xs : List Bytes) : flat (xs.map AV.str) = xs.map AV.str := by
  induction xs with
  | nil => rfl
  | cons x r ih => show AV.str x :: flat (r.map AV.str) = _; rw [ih]; rfl
theorem split_at : QuietAt Tryd.prog 20 splitF := by
  intro args x hx G w vals g ha
  unfold splitF at hx
  split at hx
  · rename_i s c
    split at hx
    · rename_i hl
      injection hx with hx
      subst hx
      obtain ⟨v, u, rfl, h1, h2⟩ := args_two ha
      rw [str_inv h1, str_inv h2]
      obtain ⟨m, hm⟩ := max_of g
      refine (Tryd.strings_Split ⟨⟨s⟩⟩ ⟨⟨[c]⟩⟩ m w hl hm (by show 1 ≤ [c].length; simp)).mono ?_
      rintro e w' ⟨rfl, rfl⟩
      have hlen := Lib.splitB_all ⟨⟨[c]⟩⟩ (by show 1 ≤ [c].length; simp) 0 _ (⟨⟨s⟩⟩ : ByteArray) rfl
      have hone := splitB_one (⟨⟨s⟩⟩ : ByteArray) c
      revert hlen hone
      generalize Lib.splitB ⟨⟨[c]⟩⟩ 0 (Lib.countB ⟨⟨s⟩⟩ ⟨⟨[c]⟩⟩) ⟨⟨s⟩⟩ = ps
      intro hlen hone
      have hone : ps.map (·.data.toList) = splitL c s := hone
      rw [← hlen, ← hone]
      have hsz : sizeT Tryd.prog 9 = some 1 := by kernel_rfl
      have hb : Below w.heap.size w (w.alloc (.cells (ps.map Value.string).toArray 9)) := (Below.refl _ _).alloc (Nat.le_refl _) _
      have hr := list_rep (P := Tryd.prog) g hb (alloc_heap_new w _) (e := 9) (xs := (ps.map (·.data.toList)).map AV.str) (cap := ps.length) none hsz (by decide) (by intro x hx; obtain ⟨y, _, rfl⟩ := List.mem_map.1 hx; rfl) (by simp) (by
        intro j hj
        rw [flat_strs] at hj ⊢
        have hj : j < ps.length := by simpa using hj
        refine ⟨by simpa using hj, ?_, ?_⟩
        · simp only [List.getD_eq_getElem?_getD, List.getElem?_map, List.getElem?_eq_getElem hj, Option.map_some, Option.getD_some, Array.getD_eq_getD_getElem?, List.getElem?_toArray]
          exact .str _
        · simp only [Array.getD_eq_getD_getElem?, List.getElem?_toArray, List.getElem?_map, List.getElem?_eq_getElem hj, Option.map_some, Option.getD_some]
          rfl)
      have el : ((ps.map (·.data.toList)).map AV.str).length = ps.length := by simp
      refine ⟨_, rfl, hb, .inr ⟨((ps.map (·.data.toList)).map AV.str).length * 1, by simp, ?_⟩⟩
      have e2 : (Value.slice (some ⟨w.heap.size, 0, none⟩) ((ps.map (·.data.toList)).map AV.str).length ps.length) = .slice (some ⟨w.heap.size, 0, none⟩) ps.length ps.length := by rw [el]
      rw [e2] at hr
      exact hr
    · cases hx
  · cases hx
def cutF : List AV → Option AV
  | [.str s, .str [c]] => if s.length < 4294967281 then some (.tup [.str (cutL c s).1, .str (cutL c s).2.1, .bool (cutL c s).2.2]) else none
  | _ => none
theorem cut_at : QuietAt Tryd.prog 38 cutF := by
  intro args x hx G w vals g ha
  unfold cutF at hx
  split at hx
  · rename_i s c
    split at hx
    · rename_i hl
      injection hx with hx
      subst hx
      obtain ⟨v, u, rfl, h1, h2⟩ := args_two ha
      rw [str_inv h1, str_inv h2]
      obtain ⟨m, hm⟩ := max_of g
      refine (Tryd.strings_Cut ⟨⟨s⟩⟩ ⟨⟨[c]⟩⟩ m w hl hm).mono ?_
      rintro e w' ⟨rfl, n, rfl⟩
      refine ⟨_, rfl, drew_below w n, .inl ?_⟩
      rw [cutL_eq]
      refine .tup _ _ rfl fun i hi => ?_
      match i, hi with
      | 0, _ => exact .str _
      | 1, _ => exact .str _
      | 2, _ => exact .bool _
    · cases hx
  · cases hx

/-! ### strconv -/
def fmtUF : List AV → Option AV
  | [.int .u64 n, .int .i64 10] => if 0 ≤ n ∧ n < 18446744073709551616 then some (.str (numeral n.toNat)) else none
  | _ => none
theorem fmtU_at : QuietAt Tryd.prog 55 fmtUF := by
  intro args x hx G w vals g ha
  unfold fmtUF at hx
  split at hx
  · rename_i n
    split at hx
    · rename_i hl
      injection hx with hx
      subst hx
      obtain ⟨v, u, rfl, h1, h2⟩ := args_two ha
      rw [int_inv h1, int_inv h2]
      obtain ⟨u, rfl⟩ : ∃ u : Nat, n = u := ⟨n.toNat, by omega⟩
      refine (fmtU u (by omega) w (tab_of g)).mono ?_
      rintro e w' ⟨rfl, k, os, rfl⟩
      refine ⟨_, rfl, Lib.below_grow _ _ (Nat.le_refl _) _ _, .inl ?_⟩
      rw [Int.toNat_natCast, numeral_dec (by omega)]
      exact .str _
    · cases hx
  · cases hx
def fmtIF : List AV → Option AV
  | [.int .i64 n, .int .i64 10] => if -9223372036854775808 ≤ n ∧ n ≤ 9223372036854775807 then some (.str (numeralI n)) else none
  | _ => none
theorem fmtI_at : QuietAt Tryd.prog 28 fmtIF := by
  intro args x hx G w vals g ha
  unfold fmtIF at hx
  split at hx
  · rename_i n
    split at hx
    · rename_i hl
      injection hx with hx
      subst hx
      obtain ⟨v, u, rfl, h1, h2⟩ := args_two ha
      rw [int_inv h1, int_inv h2]
      refine (Tryd.strconv_FormatInt_10 n hl.1 hl.2 w (tab_of g)).mono ?_
      rintro e w' ⟨rfl, k, os, rfl⟩
      refine ⟨_, rfl, Lib.below_grow _ _ (Nat.le_refl _) _ _, .inl ?_⟩
      rw [numeralI_dec hl.1 hl.2]
      exact .str _
    · cases hx
  · cases hx
def parseV (s : Bytes) : AV :=
  match Lib.parseUintB 64 s with
  | .ok u => .tup [.int .u64 (u : Int), .nili]
  | Lib.NumEnd.syntax => .tup [.int .u64 0, .iface 120 .undef]
  | .range => .tup [.int .u64 18446744073709551615, .iface 120 .undef]
def parseF : List AV → Option AV
  | [.str s, .int .i64 10, .int .i64 64] => if s.length ≤ 281474976710656 then some (parseV s) else none
  | _ => none
theorem parse_at : QuietAt Tryd.prog 54 parseF := by
  intro args x hx G w vals g ha
  unfold parseF at hx
  split at hx
  · rename_i s
    split at hx
    · rename_i hl
      injection hx with hx
      subst hx
      obtain ⟨v, u, t, rfl, h1, h2, h3⟩ := args_three ha
      rw [str_inv h1, int_inv h2, int_inv h3]
      unfold parseV
      rcases hp : Lib.parseUintB 64 s with u | _ | _
      · simp only
        refine (Tryd.strconv_ParseUint_10_at64_ok ⟨⟨s⟩⟩ (by show s.length ≤ _; omega) u hp w).mono ?_
        rintro e w' ⟨rfl, h⟩
        refine ⟨_, rfl, ?_, .inl ?_⟩
        · rcases h with rfl | rfl
          · exact Below.refl _ _
          · exact Lib.bytesWorld_below _ _ _
        · refine .tup _ _ rfl fun i hi => ?_
          match i, hi with
          | 0, _ => exact .int _ _
          | 1, _ => exact .nili
      · simp only
        obtain ⟨tp, p, hv⟩ := syn_of g
        refine (Tryd.strconv_ParseUint_10_at64_syntax_var ⟨⟨s⟩⟩ hl hp tp p w hv).mono ?_
        rintro e w' ⟨N, rfl, h, _, hb⟩
        refine ⟨_, rfl, hb, .inl ?_⟩
        refine .tup _ _ rfl fun i hi => ?_
        match i, hi with
        | 0, _ => exact .int _ _
        | 1, _ => exact .iface _ _ _ (.undef _)
      · simp only
        obtain ⟨tp, p, hv⟩ := rng_of g
        refine (Tryd.strconv_ParseUint_10_at64_range_var ⟨⟨s⟩⟩ hl hp tp p w hv).mono ?_
        rintro e w' ⟨N, rfl, h, _, hb⟩
        refine ⟨_, rfl, hb, .inl ?_⟩
        refine .tup _ _ rfl fun i hi => ?_
        match i, hi with
        | 0, _ => exact .int _ _
        | 1, _ => exact .iface _ _ _ (.undef _)
    · cases hx
  · cases hx
def libs : List (FuncId × ShortF) := [(20, quiet splitF), (38, quiet cutF), (54, quiet parseF), (55, quiet fmtUF), (28, quiet fmtIF)]
theorem libs_ok : AllOk Tryd.prog libs := ⟨quiet_ok split_at, quiet_ok cut_at, quiet_ok parse_at, quiet_ok fmtU_at, quiet_ok fmtI_at, trivial⟩
end Go.Proofs.YtecdcnacjlcjoaaDoor.Job

/- Which slots outlive each region, function by function: read off the program's text by a small program. -/
namespace Go.Proofs.YtecdcnacjlcjoaaDoor
def vtab : List (List (List Nat)) := [[],
  [],
  [[]],
  [[0], [0, 11], [2], [0, 3, 4, 5], [3, 4, 5, 6, 7, 8], [2]],
  [[0, 1], [0, 1, 20], [4], [0, 1, 6, 7], [0, 1, 6, 29], [4], [0, 1, 6, 8], [0, 1, 6, 8, 9], [0, 1, 6, 8, 9, 33], [0, 1, 6, 8, 9], [0, 1, 6, 8, 9, 45], [0, 1, 6, 8, 9], [0, 1, 6, 8, 9, 51], [4], [0, 1, 6, 8, 9], [6, 11, 12], [4]],
  [[1], [1, 3], [1, 3, 19], [2], [1, 3, 4, 5], [1, 3, 4, 27], [2], [1, 3, 4, 6], [4, 6], [4, 7, 8], [4, 7, 63], [2], [9], [9, 70], [2], [9, 10], [9, 10, 75], [9, 10], [9, 10, 81], [2], [2]],
  [[1, 3, 5], [1, 3, 5, 7], [1, 3, 5, 7, 28], [6], [1, 3, 5, 7, 8, 9], [3, 5, 7, 8, 9, 10], [3, 5, 7, 8, 9, 10, 42], [3, 5, 7, 8, 9, 10], [3, 7, 8, 9, 10, 11], [3, 7, 8, 9, 10, 12, 13], [3, 7, 8, 9, 10, 12, 13, 14, 15], [3, 7, 8, 10, 12, 14, 71], [6], [3, 7, 8, 10, 12, 14, 78], [6], [3, 7, 8, 10, 16], [7, 18, 19], [6]],
  [[2, 3], [2, 3, 19], [4], [2, 3, 5], [2, 3, 5], [2, 3, 5, 6, 7], [2, 3, 5, 6, 7, 8, 9], [4]],
  [[1, 2], [1, 2, 23], [4], [1, 2, 5, 6], [1, 2, 5, 31], [1, 2, 7, 8, 9], [1, 49], [4], [1, 10, 11, 12], [1, 10, 11, 57], [1, 10, 11, 13, 14], [4], [4]],
  [[], [1, 2, 3], [1, 2, 3, 5, 6], [1, 2, 3, 5, 6, 7, 8], [0]],
  [[0, 2, 3, 4], [0, 2, 3, 4, 5], [2, 3, 4, 5, 11], [2, 3, 4, 5, 6, 13], [2, 3, 4, 5, 6, 7], [2, 3, 4, 5, 6, 7], [2, 3, 4, 5, 7, 8], [2, 3, 4, 5, 7, 8], [2, 3, 4, 5, 7, 8, 19], [2, 3, 4, 5, 7, 9], [2, 3, 4, 5, 7, 9], [2, 3, 4, 5, 31], [], [2, 3, 4, 5, 35], [2, 3, 4], [2, 3, 4]],
  [[0, 2], [0, 2, 5], [0, 2, 5, 6], [0, 2, 5, 6, 12], [0, 2, 5, 6, 7], [0, 2, 5, 6, 7, 8, 9], [0, 2, 5, 6, 7, 8, 9], [0, 2, 5, 6, 7, 8, 34], [2, 3, 4], [0, 2, 5, 6, 7], [0, 2, 5, 6], [2, 5, 6, 43], [2, 3, 4], [2, 3, 4]],
  [[2, 3], [2, 3, 40], [4], [2, 3, 5], [2, 3, 5, 45], [2, 3, 5], [2, 3, 5, 58], [4], [4]],
  [[1], [1, 4], [1, 4, 14], [2, 3], [1, 5, 6], [1, 5, 6, 7], [1, 5, 6, 7, 8], [5, 6, 7, 8, 45, 46, 47], [5, 6, 7, 8, 45, 46, 47, 48], [5, 6, 7, 8, 10, 45, 46, 47], [5, 6, 7, 8, 10, 45, 46, 47], [5, 6, 7, 8, 10, 45, 46, 47, 78], [5, 6, 7, 8, 45, 46, 47], [5, 6, 7, 8, 45, 46, 47], [5, 6, 7, 8, 45, 46, 47], [2, 3]],
  [[1], [1, 4], [1, 4, 10], [2, 3], [1, 5], [1, 5, 6], [1, 5, 6, 36], [1, 5, 6], [1, 5, 6], [2, 3]],
  [[1], [1, 3], [1, 3, 51, 52, 53], [1, 3, 51, 52, 53, 54], [1, 3, 4, 5, 51, 52, 53], [1, 3, 51, 52, 53], [1, 3, 51, 52, 53], [74], [2], [2]],
  [[1], [1, 49], [2], [1, 3], [1, 3, 54], [1, 3], [1, 3, 4], [1, 3, 4, 81], [2], [1, 3, 4, 5], [1, 3, 4, 5, 84], [1, 3, 4, 5], [1, 3, 4, 5, 95], [2], [2]],
  [[2, 3], [4]],
  [[], [0]],
  [[1], [2]],
  [[0, 1], [4]],
  [[0, 1, 2], [0, 1, 2, 20], [6], [0, 1, 7, 8], [0, 7, 8, 28], [0, 7, 8, 28, 29], [7, 8], [6], [0, 7, 8, 28, 44], [7, 8], [6], [0, 7, 8, 28, 59], [8], [0, 7, 8, 65], [8], [6]],
  [[0, 1], [0, 1, 29], [4], [0, 1, 5, 6], [0, 1, 7], [0, 1, 7, 8, 9], [0, 1, 7, 9], [0, 1, 7, 9, 10], [0, 1, 7, 9, 10, 67], [0, 7, 9, 11, 12], [0, 7, 9], [0, 7, 9, 89], [4], [0, 7, 104], [4], [], [4]],
  [[0, 1], [0, 1, 5], [0, 1, 5, 16], [0, 1, 5], [4]],
  [[1, 2, 3, 6], [1, 2, 3, 6, 12], [3, 6, 8, 9], [3, 6, 9], [6, 7], [1, 2, 3, 6, 35], [6, 7], [1, 2, 3, 6, 10], [1, 2, 3, 6, 10, 42], [2, 3, 6, 10], [6, 7], [1, 2, 3, 6, 10, 59], [2, 3, 6, 10], [6, 7], [2, 3, 6, 10, 76], [2, 3, 6, 10], [6, 7], [2, 3, 6, 10], [6, 7]],
  [[0], [0, 3], [0, 3, 4], [0, 3, 4], [0, 3, 4, 16], [2], [0, 3]],
  [[0, 1], [0, 1]],
  [[0], [2]],
  [[0, 1], [4]],
  [[0], [0, 3], [0, 3], [0, 3, 13], [0, 3], [0, 3], [2]],
  [[1], [1, 3], [1, 3, 15], [2], [1, 3, 27], [2], [2]],
  [[1], [2]],
  [[0, 1], [4]],
  [[1, 2], [3]],
  [[0], [0, 13], [2], [0, 3], [0, 3, 17], [0, 3], [0, 3, 4], [0, 3, 4, 5], [0, 3, 49], [2], [2]],
  [[1], [1, 10], [2], [1, 13], [29], [2], [2], [42], [2], [2]],
  [[0, 1], [0, 1, 10], [4], [0, 1, 12, 13], [0, 1, 12, 13, 14], [0, 1, 5, 12, 13], [0, 1, 12, 13, 24], [4], [0, 1, 12, 13], [4]],
  [[0, 1, 7], [0, 1, 3, 4, 5], [0, 1, 4, 18], [0, 1]],
  [[0, 1], [4, 5, 6]],
  [[0, 1, 2, 3], [0, 1, 2, 3, 13], [8], [0, 1, 2, 3, 15], [8], [0, 1, 2, 3, 20], [0, 1, 2, 3], [0, 1, 2, 3], [0, 1, 2, 3, 9], [0, 1, 2, 3, 9], [0, 1, 2, 3, 9, 10], [0, 1, 2, 3, 9, 10, 36], [0, 1, 2, 3, 9, 10, 11], [0, 1, 2, 3, 9, 10, 11, 41], [0, 1, 2, 3, 9, 10, 11], [0, 1, 2, 3, 9, 10], [0, 1, 2, 3, 9, 10], [9, 10], [8]],
  [[0], [0, 4, 5], [2, 3]],
  [[0, 1], [0, 1, 7, 8], [0, 1, 7, 8, 9], [0, 1, 5, 7, 8], [0, 1, 5, 7, 8, 16], [4], [0, 1, 7, 8], [4]],
  [[1, 2], [3]],
  [[0, 2], [0, 2, 13], [2, 3], [0, 2, 4], [0, 2, 4, 31], [2, 4], [0, 2, 4, 46], [2, 4], [0, 2, 4, 65], [2, 4], [2, 3], [2, 3]],
  [[0], [0, 22], [2], [0, 3], [0, 3, 4], [0, 3, 4, 26], [0, 3, 4], [0, 3, 4, 38], [2], [0, 3, 4], [3, 48], [2], [2]],
  [[0, 1], [0, 1, 11], [0, 17], [4], [0, 5], [0, 5, 6], [0, 5, 6, 23], [0, 5, 6], [0, 5, 6, 7], [0, 5, 7], [5, 7, 34], [5, 7], [4], [4], [9], [4]],
  [[0], [3], [3, 4], [2], [3, 6], [2], [3, 8], [2], [3, 10], [2], [3, 12], [2], [3, 14], [2], [3, 16], [2], [18], [2], [2]],
  [[0], [0, 6, 7], [0, 6, 7, 8], [0, 3, 6, 7], [0, 3, 4, 6, 7], [0, 6, 7, 31], [2], [0, 6, 7], [2]],
  [[1], [1, 3], [22], [2], [2]],
  [[0, 1], [0, 1, 7, 8], [0, 1, 7, 8, 9], [0, 1, 5, 7, 8], [0, 1, 5, 7, 8, 16], [4], [0, 1, 7, 8], [4]],
  [[0, 1], [0, 1, 7], [0, 1, 7, 12], [4, 5, 6], [4, 5, 6]],
  [[0, 1], [0, 1, 5], [0, 1, 5, 18], [0, 1], [0, 1, 6], [0, 1, 6, 7], [0, 1, 6, 7, 25], [0, 1, 6, 7], [0, 1, 6, 7, 9], [0, 1, 6, 7, 9], [0, 1, 6, 7], [0, 1, 6, 43], [6], [4]],
  [[0, 1], [0, 1, 9], [4], [0, 1, 15], [4], [0, 1, 5], [0, 1, 5, 6], [0, 1, 5, 6, 24], [4], [0, 1, 5, 6], [0, 1, 5]],
  [[0, 1], [4]],
  [[0, 1, 2], [0, 1, 2, 8, 9], [0, 1, 2, 8, 9, 18], [6, 7], [6, 7]],
  [[0, 1], [4]],
  [[0], [0, 3], [0, 3, 5], [0, 3], [0, 3, 11], [2], [2]],
  [[0], [0, 4], [2], [2]],
  [[0], [0, 3], [2]],
  [[0, 1, 4], [0, 1, 4, 20], [0, 1, 4, 5], [0, 1, 4, 5], [0, 1, 4, 6, 7], [0, 1, 4, 6, 8, 9], [0, 1, 4, 8, 9, 10, 11], [0, 1, 4, 8, 10, 11], [0, 1, 4, 10, 11], [0, 1, 4, 10], [0, 1, 4], [0, 1, 4], [0, 4, 12], [0, 4, 12, 99], [0, 4, 12, 13], [0, 4, 12, 13], [0, 4, 12, 14, 15], [0, 4, 12, 14], [0, 4, 12], [0, 4, 12], [0, 4, 12, 139], [0, 4, 12, 16], [0, 4, 12, 16], [0, 4, 12], [0, 4, 12], [0, 12, 161], []],
  [[0, 1, 2, 3, 4, 10, 11], [0, 1, 2, 3, 4, 10, 11, 28], [0, 1, 2, 3, 4, 10, 11], [0, 1, 2, 3, 4, 10, 11, 12], [0, 1, 2, 3, 4, 10, 11, 12, 13], [0, 1, 2, 3, 4, 10, 11, 12, 13, 30], [0, 1, 2, 3, 4, 10, 11, 12, 13], [0, 1, 2, 3, 4, 10, 11, 12, 13, 34], [0, 1, 2, 3, 4, 10, 11, 12, 13, 14], [0, 1, 2, 3, 4, 10, 11, 12, 13, 14, 15], [0, 1, 3, 4, 10, 11, 12, 13, 14, 15, 16], [0, 1, 3, 4, 10, 11, 12, 13, 14, 15, 16, 46], [0, 1, 3, 4, 10, 11, 12, 13, 14, 15, 16], [0, 1, 3, 4, 10, 11, 12, 13, 14, 15, 16], [0, 1, 3, 4, 10, 11, 12, 13, 14, 15, 16], [0, 1, 3, 4, 10, 11, 12, 13], [0, 3, 4, 10, 11, 12, 13], [0, 1, 3, 4, 10, 11, 12, 13, 17], [0, 1, 3, 4, 10, 11, 12, 13, 17, 68], [0, 1, 3, 4, 10, 11, 12, 13, 17], [0, 1, 3, 4, 10, 11, 12, 13, 17, 18], [0, 3, 4, 10, 11, 12, 13, 17, 18], [0, 1, 3, 4, 10, 11, 12, 13, 17], [0, 1, 3, 4, 10, 11, 12, 13], [0, 3, 4, 10, 11, 12, 13], [0, 4, 10, 11, 12, 13, 89], [0, 4, 10, 11, 12, 13], [0, 4, 10, 11, 12, 13], [0, 10, 11, 12, 13, 94], [10, 11], [10, 11]],
  [[0], [0, 1], [0, 1, 2], [0]],
  [[0, 1], [0, 1, 5], [0, 1, 5, 16], [4], [0, 1, 5, 24], [4], [0, 1, 5, 31], [4], [0, 1, 5, 36], [4], [0, 1, 5, 6], [0, 1, 5, 6, 7], [0, 1, 5, 6, 7, 8], [0, 1, 5, 6, 7, 8, 9], [0, 1, 5, 6, 7, 8, 9, 10], [0, 1, 5, 6, 7, 8, 9, 10, 59], [0, 1, 5, 6, 7, 8, 9, 10, 64], [0, 1, 5, 6, 7, 8, 9, 10, 11], [0, 1, 5, 6, 7, 8, 9, 10, 11, 73], [4], [0, 1, 5, 6, 7, 8, 9, 10], [0, 1, 5, 6, 7, 8, 9, 10, 93], [4], [0, 1, 5, 6, 7, 8, 9, 10], [0, 1, 5, 6, 7, 8, 9, 10], [0, 1, 5, 6, 7, 8, 9, 10, 107], [8, 12], [8, 12, 114], [4], [4], [0, 1, 5, 6, 7, 8, 9, 10, 132], [8, 13], [8, 13, 139], [4], [4], [4]],
  [[0, 2], [2, 4], [2, 4, 6], [2, 4], [2]],
  [[0], [0, 10], [2, 3], [2, 3]],
  [],
  [[0, 1, 2], [0, 1, 2, 19], [6, 7], [0, 1, 2, 8], [0, 1, 2, 8, 9], [6, 7], [0, 1, 2, 8, 9, 25], [0, 2, 8, 9, 32], [0, 1, 2, 8, 9], [0, 1, 2, 8, 9, 37], [0, 1, 2, 8, 9], [0, 1, 2, 8, 9], [0, 2, 8, 9, 40], [0, 1, 2, 8, 9], [0, 1, 2, 8, 9], [0, 2, 8, 9, 52], [0, 1, 2, 8, 9], [0, 1, 2, 8, 9], [0, 2, 8, 9, 64], [0, 1, 2, 8, 9], [0, 1, 2, 8, 9], [0, 1, 2, 8, 9, 77], [0, 1, 2, 8, 9], [0, 1, 2, 8, 9, 83], [6, 7], [0, 1, 2, 8, 9], [0, 1, 2, 8, 9, 85], [0, 1, 2, 8, 9, 10], [0, 1, 2, 8, 9, 85, 90], [0, 1, 2, 8, 9, 10], [0, 1, 2, 8, 9, 92], [0, 1, 2, 8, 9, 10], [0, 1, 8, 9, 10, 11], [0, 1, 8, 9, 10, 11, 12], [0, 1, 8, 9, 10, 11, 12, 13], [1, 8, 9, 10, 11, 12, 13, 99, 100, 101], [1, 8, 9, 10, 11, 12, 13, 99, 100, 101, 102], [1, 8, 9, 10, 11, 12, 13, 15, 99, 100, 101], [1, 8, 9, 10, 11, 12, 13, 15, 99, 100, 101], [6, 7], [1, 8, 9, 10, 11, 12, 13, 15, 99, 100, 101, 106], [1, 8, 9, 10, 11, 12, 13, 99, 100, 101], [1, 8, 9, 10, 11, 12, 13, 15, 99, 100, 101, 112], [1, 8, 9, 10, 11, 12, 13, 16, 99, 100, 101], [1, 8, 9, 10, 11, 12, 13, 15, 99, 100, 101, 121], [1, 8, 9, 10, 11, 12, 13, 16, 99, 100, 101], [1, 8, 9, 10, 11, 12, 13, 16, 99, 100, 101, 137], [6, 7], [1, 8, 9, 10, 11, 12, 13, 16, 99, 100, 101, 141], [6, 7], [1, 8, 9, 10, 11, 12, 13, 16, 99, 100, 101], [1, 8, 9, 10, 11, 12, 13, 17, 99, 100, 101], [1, 8, 9, 10, 11, 12, 17, 99, 100, 101, 159], [6, 7], [1, 8, 9, 10, 11, 12, 13, 99, 100, 101], [1, 8, 9, 10, 11, 12, 13, 99, 100, 101], [13, 169], [6, 7], [6, 7]],
  [[0, 1, 2, 3, 4], [0, 1, 2, 3, 4, 11], [0, 1, 2, 3, 4, 11, 12], [10], [0, 1, 2, 3, 4, 11, 19], [10], [0, 1, 2, 3, 4, 11, 26], [10], [0, 1, 3, 4, 34], [10], [10]],
  [[0, 1], [0, 1, 10], [0, 12], [4], [0, 5], [0, 5, 6], [5, 6], [4], [8], [4]],
  [[0], [2]],
  [[0, 2], [0, 2, 4], [0], [0, 2], [0, 2, 8], [0, 2], [0, 2], [0, 2, 14], [0, 2], [0, 2], [2]],
  [[0], [3], [2], [2]],
  [[0], [2]],
  [[0], [2], [2]],
  [[0, 1], [0, 1, 5], [1, 5, 12], [1, 5], [4]],
  [[1], [2]],
  [[0], [2]],
  [[1, 2, 3], [3, 6], [5]],
  [[1], [2]],
  [[1, 2, 3], [1, 2, 3, 6], [1, 3, 6, 7], [1, 3, 6, 7, 21], [1, 3, 6, 7], [1, 3, 6, 7], [5]],
  [[1, 2], [4]],
  [[0, 1], [4]],
  [],
  [[0], [2]],
  [[0, 1], [0, 1, 5, 6], [0, 1, 5, 6, 7], [0, 1, 5, 6, 7, 8], [0, 1, 5, 6, 7, 8, 9], [0, 1, 5, 6, 7, 8, 9, 20], [0, 1, 5, 6, 7, 8, 9], [0, 1, 5, 6, 7, 8, 9], [0, 1, 5, 6, 7, 8, 39], [4], [0, 1, 5, 6, 7, 8, 10], [0, 1, 5, 6, 7, 8, 10, 44], [0, 1, 5, 6, 7, 8, 10], [0, 1, 5, 6, 7, 8, 10], [0, 1, 5, 6, 7, 8, 10], [0, 1, 5, 6, 7, 8, 10], [0, 1, 5, 6, 7, 8, 10, 77], [4], [4]],
  [[0], [0, 4], [0, 4, 16], [2, 3], [0, 4, 5], [0, 4, 5, 6], [0, 4, 5, 6, 23], [0, 7], [2, 3], [0, 4, 5, 6, 8], [0, 4, 5, 8, 9], [0, 5, 8, 9, 45], [2, 3], [0, 5, 8, 9, 10], [0, 5, 8, 10, 57], [2, 3], [0, 5, 8, 10, 59], [2, 3], [0, 5, 8, 10, 11], [0, 5, 8, 10, 11, 75], [2, 3], [0, 5, 10, 11, 77], [2, 3], [5, 10, 11, 12], [5, 10, 11, 12, 98], [2, 3], [2, 3]],
  [[0], [2]],
  [[0], [0, 3], [0, 3, 4], [0, 3, 4, 18], [0, 3, 4], [0, 3, 4, 5], [0, 3, 4, 5, 46], [0, 4], [0, 3, 4], [0, 3, 4, 5], [0, 3, 4, 5, 54], [0, 3, 4, 5], [0, 3, 4, 5, 83], [0, 3, 4, 5], [0, 3, 4, 5, 87], [0, 4, 5, 89], [2], [0, 3, 4, 5], [0, 4, 5, 91], [2], [0, 3, 4, 5], [2]],
  [[0, 1], [4]],
  [[0, 1], [4]],
  [[0, 1, 2], [6]],
  [[0, 1, 2], [6]],
  [[0], [0, 4], [2], [2]],
  [[0], [0, 4], [2], [2]],
  [],
  [[0], [0, 4], [0, 4, 5], [0, 4, 5, 12], [0, 4, 5], [0, 4, 5], [0, 4, 6, 7], [4, 6, 7, 8], [4, 6, 7, 8, 25], [4, 6, 7, 8], [4, 6, 7, 8, 30], [4, 6, 7, 8], [4, 6, 7, 8], [2, 3]],
  [[0], [0, 6], [2], [0, 3], [3], [2]],
  [[0], [2]],
  [[0], [2]],
  [[0], [2]],
  [],
  [],
  [],
  [],
  [],
  [],
  [],
  [],
  [],
  [],
  [],
  [],
  [],
  [],
  [],
  [],
  [],
  [],
  [],
  [],
  [],
  [],
  [],
  [],
  [],
  [],
  [],
  [],
  [],
  [[], [], [], [], [], []]]
def vars0 : FuncId → Nat → List Nat := fun f r => (((vtab[f]?).getD [])[r]?).getD []
end Go.Proofs.YtecdcnacjlcjoaaDoor

/- Job: awake answers true. -/
namespace Go.Proofs.YtecdcnacjlcjoaaDoor.Job
open Am
set_option linter.unusedVariables false
def Kl : Know := ⟨vars0, findS libs, fun _ => false, fun _ => false, 0⟩
def isTrue (o : Option Out) : Bool :=
  match o with
  | some (.bool b, _, _) => b
  | _ => false
theorem isTrue_some {o : Option Out} (h : isTrue o = true) : ∃ H own, o = some (.bool true, H, own) := by
  unfold isTrue at h
  split at h
  · exact ⟨_, _, by rw [h]⟩
  · cases h
theorem awake_runs : isTrue (callK Tryd.prog 1000 Kl 9 [] [] []) = true := by kernel_rfl
end Go.Proofs.YtecdcnacjlcjoaaDoor.Job

/- Job: the library's functions, as contracts for printed walks. -/
namespace Go.Proofs.YtecdcnacjlcjoaaDoor.Job
open Am
set_option linter.unusedVariables false

def shorts : List (FuncId × ShortF) := (9, idleF true) :: libs
theorem shorts_ok : AllOk Tryd.prog shorts := by
  obtain ⟨H, own, h⟩ := isTrue_some awake_runs
  exact ⟨idle_ok pok (short_sound (K := Kl) rfl libs_ok) (short_local (K := Kl) rfl libs_ok) h, libs_ok⟩
def Kj (lo : Nat) : Know := ⟨vars0, findS shorts, fun _ => false, fun _ => false, lo⟩

def splitS (s c : Bs) : Option (Sl Bs) :=
  match c with
  | [x] => if s.length < 4294967281 then some (some (splitL x s, [])) else none
  | _ => none
def cutS (s c : Bs) : Option (Bs × Bs × Bool) :=
  match c with
  | [x] => if s.length < 4294967281 then some (cutL x s) else none
  | _ => none
def fmtUS (n base : Int) : Option Bs := cond (base == 10) (if 0 ≤ n ∧ n < 18446744073709551616 then some (numeral n.toNat) else none) none
def fmtIS (n base : Int) : Option Bs := cond (base == 10) (if -9223372036854775808 ≤ n ∧ n ≤ 9223372036854775807 then some (numeralI n) else none) none
def parseP (s : Bs) : Int × Bool :=
  match Lib.parseUintB 64 s with
  | .ok u => ((u : Int), true)
  | Lib.NumEnd.syntax => (0, false)
  | .range => (18446744073709551615, false)
def parseS (s : Bs) (base bits : Int) : Option (Int × Bool) := cond (base == 10 && bits == 64) (if s.length ≤ 281474976710656 then some (parseP s) else none) none

section
variable {lo : Nat} {cl : Cl} {H : Hp}
theorem kp_quiet {f : FuncId} {args : List AV} {v : AV} (h : CallsR Tryd.prog (Kj lo) f args H cl fun y H' cl' => y = v ∧ H' = H ∧ cl' = cl) : CallsR Tryd.prog (Kj lo) f args H cl fun x H' cl' => x = v ∧ Kp [] H H' ∧ cl = cl' :=
  h.mono fun x H' cl' ⟨h1, h2, h3⟩ => ⟨h1, Kp.eq h2, h3.symm⟩
theorem wSplit (s c : Bs) {r : Sl Bs} (h : splitS s c = some r) : CallsR Tryd.prog (Kj lo) 20 [.str s, .str c] H cl fun x H' cl' => x = Sl.enc 9 AV.str r ∧ Kp [] H H' ∧ cl = cl' := by
  unfold splitS at h
  split at h
  · split at h
    · rename_i x hl
      have h := Option.some.inj h
      subst h
      refine kp_quiet (calls_quiet (F := splitF) rfl ?_)
      show (if s.length < 4294967281 then some (AV.lst 9 ((splitL x s).map .str) []) else none) = _
      rw [if_pos hl]; rfl
    · cases h
  · cases h
theorem wCut (s c : Bs) {r : Bs × Bs × Bool} (h : cutS s c = some r) : CallsR Tryd.prog (Kj lo) 38 [.str s, .str c] H cl fun x H' cl' => x = .tup [.str r.1, .str r.2.1, .bool r.2.2] ∧ Kp [] H H' ∧ cl = cl' := by
  unfold cutS at h
  split at h
  · split at h
    · rename_i x hl
      have h := Option.some.inj h
      subst h
      refine kp_quiet (calls_quiet (F := cutF) rfl ?_)
      show (if s.length < 4294967281 then _ else none) = _
      rw [if_pos hl]
    · cases h
  · cases h
theorem wFmtU (n base : Int) {r : Bs} (h : fmtUS n base = some r) : CallsR Tryd.prog (Kj lo) 55 [.int .u64 n, .int .i64 base] H cl fun x H' cl' => x = .str r ∧ Kp [] H H' ∧ cl = cl' := by
  unfold fmtUS at h
  cases hb : base == 10 with
  | false => rw [hb] at h; cases h
  | true =>
    rw [hb] at h
    obtain rfl := eq_of_beq hb
    simp only [cond_true] at h
    split at h
    · rename_i hl
      have h := Option.some.inj h
      subst h
      refine kp_quiet (calls_quiet (F := fmtUF) rfl ?_)
      show (if 0 ≤ n ∧ n < 18446744073709551616 then _ else none) = _
      rw [if_pos hl]
    · cases h
theorem wFmtI (n base : Int) {r : Bs} (h : fmtIS n base = some r) : CallsR Tryd.prog (Kj lo) 28 [.int .i64 n, .int .i64 base] H cl fun x H' cl' => x = .str r ∧ Kp [] H H' ∧ cl = cl' := by
  unfold fmtIS at h
  cases hb : base == 10 with
  | false => rw [hb] at h; cases h
  | true =>
    rw [hb] at h
    obtain rfl := eq_of_beq hb
    simp only [cond_true] at h
    split at h
    · rename_i hl
      have h := Option.some.inj h
      subst h
      refine kp_quiet (calls_quiet (F := fmtIF) rfl ?_)
      show (if -9223372036854775808 ≤ n ∧ n ≤ 9223372036854775807 then _ else none) = _
      rw [if_pos hl]
    · cases h
theorem wParse (s : Bs) (base bits : Int) {r : Int × Bool} (h : parseS s base bits = some r) : CallsR Tryd.prog (Kj lo) 54 [.str s, .int .i64 base, .int .i64 bits] H cl fun x H' cl' => x = .tup [.int .u64 r.1, cond r.2 .nili (.iface 120 .undef)] ∧ Kp [] H H' ∧ cl = cl' := by
  unfold parseS at h
  cases hb : base == 10 && bits == 64 with
  | false => rw [hb] at h; cases h
  | true =>
    rw [hb] at h
    rw [Bool.and_eq_true] at hb
    obtain rfl := eq_of_beq hb.1
    obtain rfl := eq_of_beq hb.2
    simp only [cond_true] at h
    split at h
    · rename_i hl
      have h := Option.some.inj h
      subst h
      refine kp_quiet (calls_quiet (F := parseF) rfl ?_)
      show (if s.length ≤ 281474976710656 then some (parseV s) else none) = _
      rw [if_pos hl]
      unfold parseV parseP
      cases Lib.parseUintB 64 s <;> rfl
    · cases h
theorem wAwake : CallsR Tryd.prog (Kj lo) 9 [] H cl fun x H' cl' => x = .bool true ∧ Kp [] H H' ∧ cl = cl' := kp_quiet (calls_idle rfl)
end
end Go.Proofs.YtecdcnacjlcjoaaDoor.Job

/- Types. Printed by a small program. -/
namespace Go.Proofs.YtecdcnacjlcjoaaDoor.Job
open Am
set_option linter.unusedVariables false
set_option linter.unusedSimpArgs false
structure T38 where
  Name : Bs
  Agg : Int
  Windows_Kind : Int
  Windows_Size : Int
  Windows_Slide : Int
def T38.enc (o : T38) : AV := .agg [.str o.Name, .int .i64 o.Agg, .int .i64 o.Windows_Kind, .int .i64 o.Windows_Size, .int .i64 o.Windows_Slide]
structure T36 where
  Kind : Int
  Size : Int
  Slide : Int
def T36.enc (o : T36) : AV := .agg [.int .i64 o.Kind, .int .i64 o.Size, .int .i64 o.Slide]
structure T25 where
  Groups : Int
  Sources : Int
  Bound : Int
  Late : Int
  Ops : (Sl T38)
def T25.enc (o : T25) : AV := .agg [.int .i64 o.Groups, .int .i64 o.Sources, .int .i64 o.Bound, .int .i64 o.Late, Sl.enc 38 T38.enc o.Ops]
theorem sh36 : Tryd.prog.stoodInHeld 36 = false := by kernel_rfl
theorem sh38 : Tryd.prog.stoodInHeld 38 = false := by kernel_rfl
theorem eg38 : Tryd.prog.eqGuardType Tryd.prog.depth 38 = false := by kernel_rfl
theorem eg75 : Tryd.prog.eqGuardType Tryd.prog.depth 75 = false := by kernel_rfl
end Go.Proofs.YtecdcnacjlcjoaaDoor.Job
