/- What rows have at a number is what the document says: the plain law. -/
import Derived.Test.YtnajopkaepjncaaA11
namespace Go.Proofs.Ytnajopkaepjncaa
open Am
set_option linter.unusedVariables false
set_option linter.unusedSimpArgs false

theorem less_irrefl : ∀ l : List UInt8, Op.bytesLess l l = false
  | [] => rfl
  | a :: r => by
    unfold Op.bytesLess
    have h : ¬ (a < a) := by intro h; exact absurd h (UInt8.lt_irrefl a)
    simp [less_irrefl r, h]
theorem less_trans : ∀ {a b c : List UInt8}, Op.bytesLess a b = true → Op.bytesLess b c = true → Op.bytesLess a c = true
  | [], [], _, h, _ => by simp [Op.bytesLess] at h
  | [], _ :: _, [], _, h => by simp [Op.bytesLess] at h
  | [], _ :: _, _ :: _, _, _ => rfl
  | _ :: _, [], _, h, _ => by simp [Op.bytesLess] at h
  | _ :: _, _ :: _, [], _, h => by simp [Op.bytesLess] at h
  | x :: a, y :: b, z :: c, h, k => by
    unfold Op.bytesLess at h k ⊢
    simp only [Bool.or_eq_true, decide_eq_true_eq, Bool.and_eq_true, beq_iff_eq] at h k ⊢
    rcases h with h | ⟨rfl, h⟩
    · rcases k with k | ⟨rfl, k⟩
      · exact .inl (UInt8.lt_trans h k)
      · exact .inl h
    · rcases k with k | ⟨rfl, k⟩
      · exact .inl k
      · exact .inr ⟨rfl, less_trans h k⟩

/-- Next to each other, rows in order are in order. -/
theorem order_next {l : List Row} (h : orderP l = true) {i : Nat} {a b : Row} (ha : l[i]? = some a) (hb : l[i + 1]? = some b) : aheadP a b.key b.seq = true := by
  have key : ∀ (n k : Nat), orderFrom l n k = true → k ≤ i → i < k + n → aheadP a b.key b.seq = true := by
    intro n
    induction n with
    | zero => intro k _ h1 h2; omega
    | succ n ih =>
      intro k h h1 h2
      simp only [orderFrom] at h
      by_cases hk : k = i
      · subst hk
        rw [ha, hb] at h
        simp only at h
        cases hc : aheadP a b.key b.seq with
        | true => rfl
        | false => rw [hc] at h; simp at h
      · have hi : i < l.length := (List.getElem?_eq_some_iff.1 ha).1
        rw [List.getElem?_eq_getElem (by omega : k < l.length), List.getElem?_eq_getElem (by omega : k + 1 < l.length)] at h
        simp only at h
        split at h
        · exact ih (k + 1) h (by omega) (by omega)
        · cases h
  have hlt : i + 1 < l.length := (List.getElem?_eq_some_iff.1 hb).1
  exact key (l.length - 1) 0 h (Nat.zero_le _) (by omega)
theorem order_seq {l : List Row} (h : orderP l = true) {i : Nat} {a b : Row} (ha : l[i]? = some a) (hb : l[i + 1]? = some b) (hk : a.key = b.key) : b.seq < a.seq := by
  have := order_next h ha hb
  unfold aheadP at this
  rw [hk, less_irrefl] at this
  simpa using this

theorem find_is (p : Row → Bool) (l : List Row) : ∀ (n k : Nat), l.length - k = n → (findAt p l n k = -1 ∧ (l.drop k).find? p = none) ∨ ∃ (j : Nat) (r : Row), findAt p l n k = (j : Int) ∧ l[j]? = some r ∧ (l.drop k).find? p = some r := by
  intro n
  induction n with
  | zero =>
    intro k hn
    refine .inl ⟨rfl, ?_⟩
    rw [List.drop_eq_nil_of_le (by omega)]; rfl
  | succ n ih =>
    intro k hn
    have hk : k < l.length := by omega
    simp only [findAt]
    rw [List.getElem?_eq_getElem hk, List.drop_eq_getElem_cons hk]
    simp only [List.find?_cons]
    cases hp : p l[k] with
    | true => exact .inr ⟨k, l[k], rfl, List.getElem?_eq_getElem hk, rfl⟩
    | false => exact ih (k + 1) (by omega)

def seenR (run : List Row) (n : Int) : Option Row := run.find? fun r => decide (r.seq ≤ n)
def putR : Option Row → Option Pr
  | some r => match r.kind == 1 with
    | true => some ⟨r.key, r.val⟩
    | false => none
  | none => none
theorem pick_is (run : List Row) (n : Int) : pickP run n = putR (seenR run n) := by
  unfold pickP seenR seenP
  rcases find_is (fun r => decide (r.seq ≤ n)) run run.length 0 rfl with ⟨h1, h2⟩ | ⟨j, r, h1, h2, h3⟩
  · rw [h1]
    rw [List.drop_zero] at h2
    rw [h2]
    rfl
  · rw [h1]
    rw [List.drop_zero] at h3
    rw [h3]
    have : decide ((j : Int) ≥ 0) = true := by simp
    rw [this]
    simp only [Int.toNat_natCast, h2]
    rfl

theorem at_is (rs : List (List Row)) (n : Int) : ∀ (m k : Nat) (out : List Pr), rs.length - k = m → atFrom rs n m k out = out ++ (rs.drop k).filterMap (pickP · n) := by
  intro m
  induction m with
  | zero =>
    intro k out h
    rw [List.drop_eq_nil_of_le (by omega)]
    simp [atFrom]
  | succ m ih =>
    intro k out h
    have hk : k < rs.length := by omega
    simp only [atFrom]
    rw [List.getElem?_eq_getElem hk, List.drop_eq_getElem_cons hk]
    simp only [List.filterMap_cons]
    cases hp : pickP rs[k] n with
    | none => exact ih (k + 1) out (by omega)
    | some p =>
      simp only
      rw [ih (k + 1) _ (by omega)]
      simp
theorem runs_out (l : List Row) : ∀ (m i fr : Nat) (out : List (List Row)), runsFrom l m i fr out = out ++ runsFrom l m i fr [] := by
  intro m
  induction m with
  | zero => intro i fr out; simp [runsFrom]
  | succ m ih =>
    intro i fr out
    simp only [runsFrom]
    cases endAt l i with
    | true => simp only; rw [ih _ _ (out ++ _), ih _ _ ([] ++ _)]; simp
    | false => simp only; exact ih _ _ out
theorem ref_out (l : List Row) (n : Int) : ∀ (m i : Nat) (out : List Pr), refFrom l n m i out = out ++ refFrom l n m i [] := by
  intro m
  induction m with
  | zero => intro i out; simp [refFrom]
  | succ m ih =>
    intro i out
    simp only [refFrom]
    cases l[i]? with
    | none => simp
    | some r =>
      simp only
      cases (seesP l i n && (r.kind == 1)) with
      | true => simp only; rw [ih _ (out ++ _), ih _ ([] ++ _)]; simp
      | false => simp only; exact ih _ out

theorem take_one {l : List Row} {fr i : Nat} {a : Row} (h : fr ≤ i) (ha : l[i]? = some a) : (l.take (i + 1)).drop fr = (l.take i).drop fr ++ [a] := by
  have hlt : i < l.length := (List.getElem?_eq_some_iff.1 ha).1
  have e : l.take (i + 1) = l.take i ++ [a] := by rw [List.take_add_one, ha]; rfl
  rw [e, List.drop_append_of_le_length (by rw [List.length_take]; omega)]

theorem runs_at {l : List Row} (ho : orderP l = true) (n : Int) : ∀ (m i fr : Nat), l.length - i = m → fr ≤ i → (i = fr → i = 0 ∨ ∀ a b, l[i - 1]? = some a → l[i]? = some b → a.key ≠ b.key) → (fr < i → ∀ a b, l[i - 1]? = some a → l[i]? = some b → a.key = b.key) →
    (seenR ((l.take i).drop fr) n = none → (runsFrom l m i fr []).filterMap (pickP · n) = refFrom l n m i []) ∧
    (∀ r, seenR ((l.take i).drop fr) n = some r → i < l.length → (∀ a, l[i - 1]? = some a → a.seq ≤ n) → (runsFrom l m i fr []).filterMap (pickP · n) = (putR (some r)).toList ++ refFrom l n m i []) := by
  intro m
  induction m with
  | zero =>
    intro i fr hm hfr h1 h2
    exact ⟨fun _ => rfl, fun r _ hlt => by omega⟩
  | succ m ih =>
    intro i fr hm hfr h1 h2
    have hi : i < l.length := by omega
    have hm1 : l.length - (i + 1) = m := by omega
    obtain ⟨a, ha⟩ : ∃ a, l[i]? = some a := ⟨l[i], List.getElem?_eq_getElem hi⟩
    -- the row ahead, in the same run
    have hprev : fr < i → ∃ b, l[i - 1]? = some b ∧ b.key = a.key ∧ a.seq < b.seq := by
      intro h
      obtain ⟨b, hb⟩ : ∃ b, l[i - 1]? = some b := ⟨l[i - 1], List.getElem?_eq_getElem (by omega)⟩
      have hk := h2 h b a hb ha
      exact ⟨b, hb, hk, order_seq ho hb (by rw [Nat.sub_add_cancel (by omega)]; exact ha) hk⟩
    have hcat := take_one hfr ha
    have hseen : seenR ((l.take (i + 1)).drop fr) n = (match seenR ((l.take i).drop fr) n with
      | some r => some r
      | none => if a.seq ≤ n then some a else none) := by
      rw [hcat]
      unfold seenR
      rw [List.find?_append]
      cases h : List.find? (fun r => decide (r.seq ≤ n)) ((l.take i).drop fr) with
      | some r => rfl
      | none =>
        simp only [Option.none_or, List.find?_cons, List.find?_nil]
        by_cases h : a.seq ≤ n <;> simp [h]
    -- what the document sees here
    have hsee0 : seenR ((l.take i).drop fr) n = none → seesP l i n = decide (a.seq ≤ n) := by
      intro h
      unfold seesP
      rw [ha]
      simp only
      by_cases hfi : fr < i
      · obtain ⟨b, hb, hk, _⟩ := hprev hfi
        have hbn : ¬ b.seq ≤ n := by
          intro hbn
          unfold seenR at h
          have hmem : b ∈ (l.take i).drop fr := by
            refine List.mem_of_getElem? (i := i - 1 - fr) ?_
            rw [List.getElem?_drop, List.getElem?_take, if_pos (by omega)]
            rw [show fr + (i - 1 - fr) = i - 1 by omega]
            exact hb
          have := List.find?_eq_none.1 h b hmem
          simp [hbn] at this
        rw [hb]
        have : decide (b.seq > n) = true := by simp; omega
        simp [this]
      · have : i = fr := by omega
        rcases h1 this with h0 | h0
        · simp [h0]
        · by_cases hz : i = 0
          · simp [hz]
          · obtain ⟨b, hb⟩ : ∃ b, l[i - 1]? = some b := ⟨l[i - 1], List.getElem?_eq_getElem (by omega)⟩
            rw [hb]
            have := h0 b a hb ha
            simp [this]
    have hsee1 : ∀ r, seenR ((l.take i).drop fr) n = some r → (∀ a, l[i - 1]? = some a → a.seq ≤ n) → seesP l i n = false := by
      intro r h hp
      have hfi : fr < i := by
        rcases Nat.lt_or_ge fr i with h' | h'
        · exact h'
        · rw [List.drop_eq_nil_of_le (by rw [List.length_take]; omega)] at h; cases h
      obtain ⟨b, hb, hk, _⟩ := hprev hfi
      have := hp b hb
      unfold seesP
      rw [ha]
      simp only
      rw [hb]
      have e1 : (i == 0) = false := by rw [beq_eq_false_iff_ne]; omega
      have e2 : decide (b.seq > n) = false := by simp; omega
      simp [e1, e2, hk]
    have href : refFrom l n (m + 1) i [] = (match seesP l i n with
      | true => (putR (some a)).toList
      | false => []) ++ refFrom l n m (i + 1) [] := by
      simp only [refFrom, ha]
      cases seesP l i n with
      | false => simp
      | true =>
        simp only [Bool.true_and, putR]
        cases hk : (a.kind == 1) with
        | true => simp only; rw [ref_out]; simp
        | false => simp
    simp only [runsFrom]
    cases he : endAt l i with
    | true =>
      simp only [List.nil_append]
      rw [runs_out]
      rw [List.filterMap_append]
      have hstart : i + 1 = 0 ∨ ∀ b c, l[i + 1 - 1]? = some b → l[i + 1]? = some c → b.key ≠ c.key := by
        refine .inr fun b c hb hc => ?_
        rw [Nat.add_sub_cancel, ha] at hb
        injection hb with hb; subst hb
        unfold endAt at he
        rw [ha, hc] at he
        simp only at he
        intro e
        rw [e] at he
        simp at he
      have hnext := (ih (i + 1) (i + 1) hm1 (Nat.le_refl _) (fun _ => hstart) (fun h => by omega)).1 (by
        rw [List.drop_eq_nil_of_le (by rw [List.length_take]; omega)]; rfl)
      rw [hnext, href]
      have hone : List.filterMap (fun x => pickP x n) [(l.take (i + 1)).drop fr] = (putR (seenR ((l.take (i + 1)).drop fr) n)).toList := by
        simp only [List.filterMap_cons, List.filterMap_nil, pick_is]
        cases putR (seenR ((l.take (i + 1)).drop fr) n) <;> rfl
      rw [hone, hseen]
      refine ⟨fun h => ?_, fun r h _ hp => ?_⟩
      · rw [h, hsee0 h]
        by_cases hs : a.seq ≤ n
        · simp [hs]
        · simp [hs, putR]
      · rw [h, hsee1 r h hp]
        simp
    | false =>
      simp only
      obtain ⟨b, hb⟩ : ∃ b, l[i + 1]? = some b := by
        unfold endAt at he
        rw [ha] at he
        cases hb : l[i + 1]? with
        | none => rw [hb] at he; simp at he
        | some b => exact ⟨b, rfl⟩
      have hab : a.key = b.key := by
        unfold endAt at he
        rw [ha, hb] at he
        simp only [Bool.not_eq_false', beq_iff_eq] at he
        exact he.symm
      have hi1 : i + 1 < l.length := (List.getElem?_eq_some_iff.1 hb).1
      obtain ⟨n1, n2⟩ := ih (i + 1) fr hm1 (by omega) (fun h => by omega) (fun _ c d hc hd => by
        rw [Nat.add_sub_cancel, ha] at hc; injection hc with hc; subst hc
        rw [hb] at hd; injection hd with hd; subst hd
        exact hab)
      rw [href]
      refine ⟨fun h => ?_, fun r h _ hp => ?_⟩
      · rw [hsee0 h]
        rw [h] at hseen
        by_cases hs : a.seq ≤ n
        · rw [if_pos hs] at hseen
          rw [n2 a hseen hi1 (fun c hc => by rw [Nat.add_sub_cancel, ha] at hc; injection hc with hc; subst hc; exact hs)]
          simp [hs]
        · rw [if_neg hs] at hseen
          rw [n1 hseen]
          simp [hs]
      · rw [hsee1 r h hp]
        rw [h] at hseen
        have hfi : fr < i := by
          rcases Nat.lt_or_ge fr i with h' | h'
          · exact h'
          · rw [List.drop_eq_nil_of_le (by rw [List.length_take]; omega)] at h; cases h
        obtain ⟨b', hb', hk', hs'⟩ := hprev hfi
        have := hp b' hb'
        rw [n2 r hseen hi1 (fun c hc => by rw [Nat.add_sub_cancel, ha] at hc; injection hc with hc; subst hc; omega)]
        simp

theorem at_law {l : List Row} (ho : orderP l = true) (n : Int) : atP l n = refFrom l n l.length 0 [] := by
  unfold atP
  rw [at_is (runsP l) n (runsP l).length 0 [] rfl, List.drop_zero, List.nil_append]
  exact (runs_at ho n l.length 0 0 rfl (Nat.le_refl _) (fun _ => .inl rfl) (fun h => by omega)).1 rfl
theorem atA_is (l : List Row) (n : Int) : atA l n = refA l n := by
  unfold atA refA
  cases h : orderP l with
  | true => simp only; rw [at_law h]
  | false => rfl
end Go.Proofs.Ytnajopkaepjncaa
