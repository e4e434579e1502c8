/- What is dropped, told by what a row is, not by where it stands. -/
import Derived.Test.YtnajopkaepjncaaM5
import Derived.Test.YtnajopkaepjncaaM4
/- What is dropped, told by what a row is, not by where it stands. -/
namespace Go.Proofs.Ytnajopkaepjncaa
open Am
set_option linter.unusedVariables false
set_option linter.unusedSimpArgs false

/-! ### rows in order -/
def Ord (l : List Row) : Prop := l.Pairwise fun a b => aheadP a b.key b.seq = true
theorem ord_of {l : List Row} (ho : orderP l = true) : Ord l := by
  unfold Ord
  rw [List.pairwise_iff_getElem]
  intro i j hi hj hij
  have h := order_le ho (List.getElem?_eq_getElem hi) (j - i) l[j] (by rw [show i + (j - i) = j by omega]; exact List.getElem?_eq_getElem hj)
  unfold aheadP
  rcases h with h | ⟨h1, h2⟩
  · rw [h]; rfl
  · have := h2 (by omega)
    rw [h1]
    simp; omega
theorem of_ord {l : List Row} (h : Ord l) : orderP l = true := by
  unfold Ord at h
  rw [List.pairwise_iff_getElem] at h
  have key : ∀ (n k : Nat), k + n + 1 ≤ l.length ∨ n = 0 → orderFrom l n k = true := by
    intro n
    induction n with
    | zero => intro k _; rfl
    | succ n ih =>
      intro k hk
      have hk : k + (n + 1) + 1 ≤ l.length := by omega
      simp only [orderFrom]
      rw [List.getElem?_eq_getElem (by omega : k < l.length), List.getElem?_eq_getElem (by omega : k + 1 < l.length)]
      simp only
      rw [h k (k + 1) (by omega) (by omega) (by omega)]
      exact ih (k + 1) (by omega)
  exact key (l.length - 1) 0 (by omega)
theorem Ord.sub {a l : List Row} (h : Ord l) (hs : List.Sublist a l) : Ord a := List.Pairwise.sublist hs h
theorem SeqOk.sub {a l : List Row} (h : SeqOk l) (hs : List.Sublist a l) : SeqOk a := fun r hr => h r (hs.subset hr)

/-- Does a number see this row of these? -/
def seesB (l : List Row) (x : Int) (r : Row) : Bool := decide (r.seq ≤ x) && l.all fun q => !(q.key == r.key) || !(decide (q.seq ≤ x)) || decide (q.seq ≤ r.seq)
theorem seesB_iff (l : List Row) (x : Int) (r : Row) : seesB l x r = true ↔ (r.seq ≤ x ∧ ∀ q ∈ l, q.key = r.key → q.seq ≤ x → q.seq ≤ r.seq) := by
  unfold seesB
  simp only [Bool.and_eq_true, decide_eq_true_eq, List.all_eq_true, Bool.or_eq_true, Bool.not_eq_true', beq_eq_false_iff_ne, decide_eq_false_iff_not]
  refine and_congr_right fun _ => ⟨fun h q hq h1 h2 => ?_, fun h q hq => ?_⟩
  · rcases h q hq with (h3 | h3) | h3
    · exact absurd h1 h3
    · exact absurd h2 h3
    · exact h3
  · by_cases h1 : q.key = r.key
    · by_cases h2 : q.seq ≤ x
      · exact .inr (h q hq h1 h2)
      · exact .inl (.inr h2)
    · exact .inl (.inl h1)
theorem sees_is {l : List Row} (ho : orderP l = true) {i : Nat} {r : Row} (hr : l[i]? = some r) (x : Int) : seesP l i x = seesB l x r := by
  rw [Bool.eq_iff_iff, seesB_iff]
  have hi : i < l.length := (List.getElem?_eq_some_iff.1 hr).1
  unfold seesP
  rw [hr]
  simp only [Bool.and_eq_true, decide_eq_true_eq]
  refine and_congr_right fun hx => ?_
  constructor
  · intro h q hq hk hqx
    obtain ⟨j, hj, rfl⟩ := List.getElem_of_mem hq
    have hjq := List.getElem?_eq_getElem hj
    rcases Nat.lt_trichotomy j i with hlt | heq | hgt
    · exfalso
      -- the row ahead of it has the same key, and a number that is not seen
      obtain ⟨b, hb⟩ : ∃ b, l[i - 1]? = some b := ⟨l[i - 1], List.getElem?_eq_getElem (by omega)⟩
      have h1 := order_le ho hjq (i - 1 - j) b (by rw [show j + (i - 1 - j) = i - 1 by omega]; exact hb)
      have h2 := order_next ho hb (by rw [show i - 1 + 1 = i by omega]; exact hr)
      unfold aheadP at h2
      rw [Bool.or_eq_true, Bool.and_eq_true, beq_iff_eq, decide_eq_true_eq] at h2
      have hbk : b.key = r.key := by
        rcases h1 with h1 | ⟨h1, _⟩
        · rcases h2 with h2 | ⟨h2, _⟩
          · have := less_trans h1 h2
            rw [hk, less_irrefl] at this; cases this
          · exact h2
        · rw [← h1, hk]
      have hbx : b.seq ≤ x := by
        rcases h1 with h1 | ⟨h1, h3⟩
        · rw [hbk, hk, less_irrefl] at h1; cases h1
        · by_cases hd : 0 < i - 1 - j
          · have := h3 hd; omega
          · have : j = i - 1 := by omega
            subst this
            rw [hjq] at hb; injection hb with hb
            rw [← hb]; exact hqx
      rw [hb] at h
      have e1 : (i == 0) = false := by rw [beq_eq_false_iff_ne]; omega
      have e2 : decide (b.seq > x) = false := by simp; omega
      simp [e1, e2, hbk] at h
    · subst heq
      rw [hjq] at hr; injection hr with hr
      rw [hr]; exact Int.le_refl _
    · rcases order_le ho hr (j - i) l[j] (by rw [show i + (j - i) = j by omega]; exact hjq) with h1 | ⟨_, h1⟩
      · rw [hk, less_irrefl] at h1; cases h1
      · have := h1 (by omega); omega
  · intro h
    by_cases h0 : i = 0
    · subst h0; rfl
    · obtain ⟨b, hb⟩ : ∃ b, l[i - 1]? = some b := ⟨l[i - 1], List.getElem?_eq_getElem (by omega)⟩
      rw [hb]
      by_cases hk : b.key = r.key
      · have hs := order_seq ho hb (by rw [show i - 1 + 1 = i by omega]; exact hr) hk
        have : b.seq > x := by
          rcases Int.lt_or_le x b.seq with h1 | h1
          · exact h1
          · have := h b (List.mem_of_getElem? hb) hk h1; omega
        simp [this]
      · simp [hk]
theorem selI_filter (l : List Row) (q : Nat → Bool) (p : Row → Bool) (h : ∀ (i : Nat) (r : Row), l[i]? = some r → q i = p r) : ∀ (n i : Nat), l.length - i = n → selI l q n i = (l.drop i).filter p := by
  intro n
  induction n with
  | zero => intro i hn; rw [List.drop_eq_nil_of_le (by omega)]; rfl
  | succ n ih =>
    intro i hn
    have hi : i < l.length := by omega
    have hr := List.getElem?_eq_getElem hi
    simp only [selI]
    rw [hr, List.drop_eq_getElem_cons hi, List.filter_cons, h i _ hr, ih (i + 1) (by omega)]
    cases p l[i] <;> rfl
/-- Is a row needed? -/
def needB (l : List Row) (ms : List Int) (r : Row) : Bool := seesB l maxU r || ms.any fun x => seesB l x r
theorem some_filter {l : List Row} (ho : orderP l = true) (ms : List Int) : someP l ms = l.filter (needB l ms) := by
  unfold someP
  rw [some_is, List.nil_append, selI_filter l (needP l ms) (needB l ms) ?_ l.length 0 rfl, List.drop_zero]
  intro i r hr
  unfold needP needB
  rw [need_any l ms i ms.length 0 _ rfl, List.drop_zero, sees_is ho hr]
  congr 1
  exact List.any_congr rfl fun x => sees_is ho hr x
def hasPut (xs : List Row) (r : Row) : Bool := xs.any fun q => (q.key == r.key) && (decide (q.seq ≤ r.seq) && (q.kind == 1))
theorem hasPut_iff (xs : List Row) (r : Row) : hasPut xs r = true ↔ ∃ q ∈ xs, q.key = r.key ∧ q.seq ≤ r.seq ∧ q.kind = 1 := by
  unfold hasPut
  simp only [List.any_eq_true, Bool.and_eq_true, beq_iff_eq, decide_eq_true_eq]
theorem put_drop {xs : List Row} (ho : orderP xs = true) {i : Nat} {a : Row} (ha : xs[i]? = some a) : ∀ (m k : Nat) (b : Bool), xs.length - k = m → i ≤ k → (i < k → ∀ c, xs[k - 1]? = some c → c.key = a.key) → putFrom xs a.key m k b = (b || (xs.drop k).any fun q => (q.key == a.key) && (q.kind == 1)) := by
  intro m
  induction m with
  | zero =>
    intro k b h _ _
    rw [List.drop_eq_nil_of_le (by omega)]
    simp [putFrom]
  | succ m ih =>
    intro k b h hik hprev
    have hk : k < xs.length := by omega
    have hr := List.getElem?_eq_getElem hk
    simp only [putFrom]
    rw [hr, List.drop_eq_getElem_cons hk]
    simp only [List.any_cons]
    by_cases he : xs[k].key = a.key
    · have e1 : (xs[k].key == a.key) = true := by rw [beq_iff_eq]; exact he
      rw [e1]
      simp only [Bool.true_and]
      rw [ih (k + 1) _ (by omega) (by omega) (fun _ c hc => by
        rw [Nat.add_sub_cancel, hr] at hc; injection hc with hc; rw [← hc]; exact he), Bool.or_assoc]
    · have e1 : (xs[k].key == a.key) = false := by rw [beq_eq_false_iff_ne]; exact he
      rw [e1]
      simp only [Bool.false_and, Bool.false_or]
      have hnone : (xs.drop (k + 1)).any (fun q => (q.key == a.key) && (q.kind == 1)) = false := by
        rw [List.any_eq_false]
        intro q hq
        obtain ⟨j, hj, rfl⟩ := List.getElem_of_mem hq
        rw [List.length_drop] at hj
        rw [List.getElem_drop]
        have hlt : k + 1 + j < xs.length := by omega
        have h1 : Op.bytesLess a.key xs[k].key = true := by
          rcases order_le ho ha (k - i) xs[k] (by rw [show i + (k - i) = k by omega]; exact hr) with h1 | ⟨h1, _⟩
          · exact h1
          · exact absurd h1.symm he
        have h2 := order_le ho hr (1 + j) xs[k + 1 + j] (by rw [show k + (1 + j) = k + 1 + j by omega]; exact List.getElem?_eq_getElem hlt)
        have h3 : xs[k + 1 + j].key ≠ a.key := by
          intro e
          rcases h2 with h2 | ⟨h2, _⟩
          · have := less_trans h1 h2
            rw [e, less_irrefl] at this; cases this
          · rw [h2, e, less_irrefl] at h1; cases h1
        simp [h3]
      rw [hnone, Bool.or_false]
theorem put_is {xs : List Row} (ho : orderP xs = true) {i : Nat} {a : Row} (ha : xs[i]? = some a) : putFrom xs a.key (xs.length - i) i false = hasPut xs a := by
  rw [put_drop ho ha (xs.length - i) i false rfl (Nat.le_refl _) (fun h => by omega), Bool.false_or, Bool.eq_iff_iff, hasPut_iff]
  have hi : i < xs.length := (List.getElem?_eq_some_iff.1 ha).1
  simp only [List.any_eq_true, Bool.and_eq_true, beq_iff_eq]
  constructor
  · rintro ⟨q, hq, h1, h2⟩
    obtain ⟨j, hj, rfl⟩ := List.getElem_of_mem hq
    rw [List.length_drop] at hj
    rw [List.getElem_drop] at h1 h2
    refine ⟨_, List.getElem_mem (by omega : i + j < xs.length), h1, ?_, h2⟩
    rcases order_le ho ha j xs[i + j] (List.getElem?_eq_getElem (by omega)) with h3 | ⟨_, h3⟩
    · rw [h1, less_irrefl] at h3; cases h3
    · by_cases h0 : 0 < j
      · have := h3 h0; omega
      · obtain rfl : j = 0 := by omega
        have := ha
        rw [List.getElem?_eq_getElem (by omega)] at this
        injection this with this
        simp only [Nat.add_zero, this]
        exact Int.le_refl _
  · rintro ⟨q, hq, h1, h2, h3⟩
    obtain ⟨j, hj, rfl⟩ := List.getElem_of_mem hq
    refine ⟨xs[j], ?_, h1, h3⟩
    by_cases hij : i ≤ j
    · rw [List.mem_iff_getElem]
      exact ⟨j - i, by rw [List.length_drop]; omega, by rw [List.getElem_drop]; congr 1; omega⟩
    · exfalso
      rcases order_le ho (List.getElem?_eq_getElem hj) (i - j) a (by rw [show j + (i - j) = i by omega]; exact ha) with h4 | ⟨_, h4⟩
      · rw [h1, less_irrefl] at h4; cases h4
      · have := h4 (by omega); omega
theorem bot_is (xs : List Row) : ∀ (m i : Nat), botFrom xs m i [] = selI xs (fun i => match xs[i]? with | some r => putFrom xs r.key (xs.length - i) i false | none => false) m i := by
  intro m
  induction m with
  | zero => intro i; rfl
  | succ m ih =>
    intro i
    simp only [botFrom, selI]
    cases hr : xs[i]? with
    | none => rfl
    | some r =>
      simp only
      cases putFrom xs r.key (xs.length - i) i false with
      | true => simp only; rw [bot_out, ih]; rfl
      | false => simp only; exact ih _
theorem bot_filter {xs : List Row} (ho : orderP xs = true) : botFrom xs xs.length 0 [] = xs.filter (hasPut xs) := by
  rw [bot_is, selI_filter xs _ (hasPut xs) ?_ xs.length 0 rfl, List.drop_zero]
  intro i r hr
  rw [hr]
  exact put_is ho hr

/-- What stays, told by what a row is. -/
def staysB (l : List Row) (ms : List Int) (bot : Bool) (r : Row) : Bool := needB l ms r && (!bot || hasPut (l.filter (needB l ms)) r)
theorem drop_filter {l : List Row} (ho : orderP l = true) (hs : SeqOk l) (ms : List Int) (bot : Bool) : dropP l ms bot = l.filter (staysB l ms bot) := by
  rw [drop_law ho hs]
  have hsome := some_filter ho ms
  cases bot with
  | false =>
    show someP l ms = _
    rw [hsome]
    refine List.filter_congr fun r _ => ?_
    unfold staysB; simp
  | true =>
    show botFrom (someP l ms) (someP l ms).length 0 [] = _
    rw [hsome]
    have ho2 : orderP (l.filter (needB l ms)) = true := of_ord ((ord_of ho).sub List.filter_sublist)
    rw [bot_filter ho2, List.filter_filter]
    refine List.filter_congr fun r _ => ?_
    unfold staysB; simp [Bool.and_comm]

/-! ### dropping again -/
theorem sees_sub {a l : List Row} (hs : List.Sublist a l) {x : Int} {r : Row} (h : seesB l x r = true) : seesB a x r = true := by
  rw [seesB_iff] at h ⊢
  exact ⟨h.1, fun q hq => h.2 q (hs.subset hq)⟩
theorem need_sub {a l : List Row} (hs : List.Sublist a l) {ms : List Int} {r : Row} (h : needB l ms r = true) : needB a ms r = true := by
  unfold needB at h ⊢
  rw [Bool.or_eq_true] at h ⊢
  rcases h with h | h
  · exact .inl (sees_sub hs h)
  · rw [List.any_eq_true] at h ⊢
    obtain ⟨x, hx, h⟩ := h
    exact .inr ⟨x, hx, sees_sub hs h⟩
theorem drop_sub {l : List Row} (ho : orderP l = true) (hs : SeqOk l) (ms : List Int) (bot : Bool) : List.Sublist (dropP l ms bot) l := by
  rw [drop_filter ho hs]; exact List.filter_sublist
theorem drop_again {l : List Row} (ho : orderP l = true) (hs : SeqOk l) (ms : List Int) (bot : Bool) : dropP (dropP l ms bot) ms bot = dropP l ms bot := by
  have hsub := drop_sub ho hs ms bot
  have ho2 : orderP (dropP l ms bot) = true := of_ord ((ord_of ho).sub hsub)
  rw [drop_filter ho2 (hs.sub hsub)]
  rw [List.filter_eq_self]
  intro r hr
  rw [drop_filter ho hs, List.mem_filter] at hr
  obtain ⟨hr0, hr⟩ := hr
  unfold staysB at hr
  rw [Bool.and_eq_true] at hr
  obtain ⟨h1, h2⟩ := hr
  unfold staysB
  rw [Bool.and_eq_true]
  refine ⟨need_sub hsub h1, ?_⟩
  cases bot with
  | false => rfl
  | true =>
    simp only [Bool.not_true, Bool.false_or] at h2 ⊢
    rw [hasPut_iff] at h2 ⊢
    obtain ⟨q, hq, h3, h4, h5⟩ := h2
    rw [List.mem_filter] at hq
    have hqm : q ∈ dropP l ms true := by
      rw [drop_filter ho hs, List.mem_filter]
      refine ⟨hq.1, ?_⟩
      unfold staysB
      rw [hq.2]
      simp only [Bool.not_true, Bool.false_or, Bool.true_and]
      rw [hasPut_iff]
      exact ⟨q, List.mem_filter.2 hq, rfl, Int.le_refl _, h5⟩
    exact ⟨q, List.mem_filter.2 ⟨hqm, need_sub hsub hq.2⟩, h3, h4, h5⟩
theorem filter_sub {p q : Row → Bool} : ∀ (l : List Row), (∀ r ∈ l, p r = true → q r = true) → List.Sublist (l.filter p) (l.filter q)
  | [], _ => List.Sublist.refl _
  | a :: l, h => by
    have ih := filter_sub l fun r hr => h r (by simp [hr])
    rw [List.filter_cons, List.filter_cons]
    cases hp : p a with
    | true => rw [h a (by simp) hp]; exact ih.cons_cons a
    | false =>
      cases q a with
      | true => exact ih.cons a
      | false => exact ih
theorem drop_more {l : List Row} (ho : orderP l = true) (hs : SeqOk l) (ms more : List Int) (bot : Bool) : List.Sublist (dropP l ms bot) (dropP l (ms ++ more) bot) := by
  have hneed : ∀ r, needB l ms r = true → needB l (ms ++ more) r = true := by
    intro r h
    unfold needB at h ⊢
    rw [Bool.or_eq_true] at h ⊢
    rcases h with h | h
    · exact .inl h
    · rw [List.any_append, h]; exact .inr rfl
  rw [drop_filter ho hs, drop_filter ho hs]
  refine filter_sub l fun r _ h => ?_
  unfold staysB at h ⊢
  rw [Bool.and_eq_true] at h ⊢
  refine ⟨hneed r h.1, ?_⟩
  cases bot with
  | false => rfl
  | true =>
    have h2 := h.2
    simp only [Bool.not_true, Bool.false_or] at h2 ⊢
    rw [hasPut_iff] at h2 ⊢
    obtain ⟨q, hq, h3⟩ := h2
    rw [List.mem_filter] at hq
    exact ⟨q, List.mem_filter.2 ⟨hq.1, hneed q hq.2⟩, h3⟩
end Go.Proofs.Ytnajopkaepjncaa

/- Dropping again changes nothing: the walk through the law's own function. -/
namespace Go.Proofs.Ytnajopkaepjncaa
open Am
set_option linter.unusedVariables false
set_option linter.unusedSimpArgs false
set_option maxRecDepth 8000

def eqR (a b : Row) : Bool := a.key == b.key && (a.seq == b.seq && (a.kind == b.kind && a.val == b.val))
theorem eqR_iff (a b : Row) : eqR a b = true ↔ a = b := by
  unfold eqR
  simp only [Bool.and_eq_true, beq_iff_eq]
  constructor
  · rintro ⟨h1, h2, h3, h4⟩
    cases a; cases b
    simp only at h1 h2 h3 h4
    subst h1; subst h2; subst h3; subst h4
    rfl
  · rintro rfl; exact ⟨rfl, rfl, rfl, rfl⟩
theorem eql39 (x y : Operand) (a b : Row) : binOpA Try.prog .eql 39 x y (.agg [.str a.key, .int .u64 a.seq, .int .i64 a.kind, .str a.val]) (.agg [.str b.key, .int .u64 b.seq, .int .i64 b.kind, .str b.val]) = some (.bool (eqR a b)) :=
  eql_agg g39 x y (eqIn39 a b)

theorem sub_ne {a b : Row} {xs ys : List Row} (h : List.Sublist (a :: xs) (b :: ys)) (hne : a ≠ b) : List.Sublist (a :: xs) ys := by
  cases h with
  | cons _ h => exact h
  | cons_cons _ h => exact absurd rfl hne
noncomputable abbrev c20 : Code := at_ Try.f20 [true, true, false, true, false, false]
theorem within_loop (a b : List Row) (sa sb : List AV) (ha : a.length < 1048576) (hb : b.length < 1048576) (cells : Cl) : ∀ (m i n : Nat) (H : Hp), b.length - i = m → n ≤ a.length → List.Sublist (a.drop n) (b.drop i) →
    L Try.prog K0 (K0.vars 20) 34 c20 [(0, .lst 39 (a.map Row.enc) sa), (1, .lst 39 (b.map Row.enc) sb), (5, .int .i64 (n : Int)), (6, .int .i64 (i : Int))] H [] cells
      fun e env H' sl cl => More H H' ∧ cl = cells ∧ sl = [] ∧ e = .exit 0 ∧ ∃ v1 v6 v16, env = [(0, .lst 39 (a.map Row.enc) sa), (1, v1), (5, .int .i64 (a.length : Int)), (6, v6), (16, v16)] := by
  intro m
  induction m with
  | zero =>
    intro i n H hm hn hs
    have hna : n = a.length := by
      rw [List.drop_eq_nil_of_le (by omega : b.length ≤ i)] at hs
      have := List.length_drop (i := n) (l := a)
      rw [List.sublist_nil.1 hs, List.length_nil] at this
      omega
    subst hna
    refine L_round ?_
    refine And.intro (fun h => ?_) (fun h => ?_)
    · exfalso
      have h := dec_true (p := (i : Int) < ((b.map Row.enc).length : Nat)) h
      rw [List.length_map] at h
      omega
    · refine And.intro (fun h => by cases h) (fun _ => ?_)
      exact And.intro (More.refl H) (And.intro rfl (And.intro rfl (And.intro rfl ⟨_, _, _, rfl⟩)))
  | succ m ih =>
    intro i n H hm hn hs
    have hi : i < b.length := by omega
    have hbi := List.getElem?_eq_getElem hi
    refine L_round ?_
    refine And.intro (fun h => ?_) (fun h => ?_)
    · clear h
      refine And.intro (fun h => ?_) (fun h => ?_)
      · have h := dec_true (p := (n : Int) < ((a.map Row.enc).length : Nat)) h
        rw [List.length_map] at h
        have hlt : n < a.length := by omega
        have hai := List.getElem?_eq_getElem hlt
        rw [List.drop_eq_getElem_cons hlt, List.drop_eq_getElem_cons hi] at hs
        refine Exists.intro _ (And.intro rfl ?_)
        refine And.intro (Int.natCast_nonneg _) (Exists.intro _ (And.intro (get_row hbi) ?_))
        refine And.intro (Int.natCast_nonneg _) (Exists.intro _ (And.intro (get_row hai) ?_))
        refine Exists.intro (.bool (eqR b[i] a[n])) (And.intro (eql39 _ _ _ _) ?_)
        refine And.intro (fun he => ?_) (fun he => ?_)
        · replace he : eqR b[i] a[n] = true := he
          rw [eqR_iff] at he
          rw [he] at hs
          refine Exists.intro (.int .i64 ((n + 1 : Nat) : Int)) (And.intro (i64_eq (by omega) (by omega) (by omega)) ?_)
          refine Exists.intro (.int .i64 ((i + 1 : Nat) : Int)) (And.intro (i64_eq (by omega) (by omega) (by omega)) ?_)
          exact ih (i + 1) (n + 1) H (by omega) (by omega) (List.cons_sublist_cons.1 hs)
        · replace he : eqR b[i] a[n] = false := he
          have hne : a[n] ≠ b[i] := by
            intro e
            rw [← e] at he
            have := (eqR_iff a[n] a[n]).2 rfl
            rw [this] at he; cases he
          refine Exists.intro (.int .i64 ((i + 1 : Nat) : Int)) (And.intro (i64_eq (by omega) (by omega) (by omega)) ?_)
          refine ih (i + 1) n H (by omega) (by omega) ?_
          rw [List.drop_eq_getElem_cons hlt]
          exact sub_ne hs hne
      · have h := dec_false (p := (n : Int) < ((a.map Row.enc).length : Nat)) h
        rw [List.length_map] at h
        have hna : n = a.length := by omega
        subst hna
        exact And.intro (More.refl H) (And.intro rfl (And.intro rfl (And.intro rfl ⟨_, _, _, rfl⟩)))
    · exfalso
      have h := dec_false (p := (i : Int) < ((b.map Row.enc).length : Nat)) h
      rw [List.length_map] at h
      omega
theorem within_spec {x y : AV} {a b : List Row} (hx : IsRows x a) (hy : IsRows y b) (ha : a.length < 1048576) (hb : b.length < 1048576) (hs : List.Sublist a b) : Gv 20 [x, y] (.bool true) := by
  refine GivesR.one (gives_by Try.func20 rfl rfl rfl fun H cells => ?_)
  rcases hx with ⟨rfl, rfl⟩ | ⟨sa, rfl⟩
  · rcases hy with ⟨rfl, rfl⟩ | ⟨sb, rfl⟩
    · refine L_round ?_
      refine And.intro (fun h => by cases h) (fun _ => ?_)
      refine And.intro (fun h => by cases h) (fun _ => ?_)
      exact Exists.intro _ (And.intro rfl (And.intro rfl (And.intro (More.refl H) rfl)))
    · refine L_round ?_
      refine And.intro (fun _ => ?_) (fun _ => ?_)
      · refine And.intro (fun h => by cases h) (fun _ => ?_)
        exact Exists.intro _ (And.intro rfl (And.intro rfl (And.intro (More.refl H) rfl)))
      · refine And.intro (fun h => by cases h) (fun _ => ?_)
        exact Exists.intro _ (And.intro rfl (And.intro rfl (And.intro (More.refl H) rfl)))
  · rcases hy with ⟨rfl, rfl⟩ | ⟨sb, rfl⟩
    · obtain rfl : a = [] := List.sublist_nil.1 hs
      refine L_round ?_
      refine And.intro (fun h => by cases h) (fun _ => ?_)
      refine And.intro (fun h => by cases h) (fun _ => ?_)
      exact Exists.intro _ (And.intro rfl (And.intro rfl (And.intro (More.refl H) rfl)))
    · refine L_mono (within_loop a b sa sb ha hb cells b.length 0 0 H rfl (Nat.zero_le _) (by simpa using hs)) ?_
      rintro e env H' sl cl ⟨h1, rfl, rfl, rfl, v1, v6, v16, rfl⟩
      refine Exists.intro _ (And.intro rfl (And.intro (?_ : AV.bool ((a.length : Int) == ((a.map Row.enc).length : Nat)) = AV.bool true) (And.intro h1 rfl)))
      rw [List.length_map]; simp

noncomputable abbrev c5e : Code := at_ Try.f5 [true, true, true, true, true, true]
theorem again_end (H0 : Hp) {x xd xb xc : AV} {l a c : List Row} (hx : IsRows x l) (hd : IsRows xd a) (hb : IsRows xb a) (hc : IsRows xc c) (hl : l.length < 1048576) (hal : List.Sublist a l) (hac : List.Sublist a c) (hcl : List.Sublist c l) (H : Hp) (hm : More H0 H) :
    cC Try.prog K0 (K0.vars 5) 91 c5e [(0, x), (9, xd), (11, xb), (12, .int .i64 0), (13, xc), (14, .int .i64 0)] H [] [] fun e env' H1 sl cl => match e with
      | .exit _ => False
      | _ => ∃ x, resA2 Try.prog ⟨env', H1, [], []⟩ Try.f5.results.toList = some x ∧ x = .bool true ∧ More H0 H1 ∧ cl = [] := by
  have h1 := hal.length_le
  have h2 := hcl.length_le
  obtain ⟨E1, hE1⟩ := same_spec19 (rows_isL hd) (rows_isL hb) (by omega) H []
  obtain ⟨E2, hE2⟩ := within_spec hd hx (by omega) hl hal (H ++ E1) []
  obtain ⟨E3, hE3⟩ := within_spec hd hc (by omega) (by omega) hac ((H ++ E1) ++ E2) []
  obtain ⟨E4, hE4⟩ := within_spec hc hx (by omega) hl hcl (((H ++ E1) ++ E2) ++ E3) []
  rcases hx with ⟨rfl, _⟩ | ⟨_, rfl⟩
  · have _ := trivial
    rcases hd with ⟨rfl, _⟩ | ⟨_, rfl⟩
    · have _ := trivial
      rcases hb with ⟨rfl, _⟩ | ⟨_, rfl⟩
      · have _ := trivial
        rcases hc with ⟨rfl, _⟩ | ⟨_, rfl⟩
        · have _ := trivial
          refine And.intro (fun _ => ?_) (fun h => by cases h)
          refine And.intro (fun _ => ?_) (fun h => by cases h)
          refine And.intro rfl (Exists.intro _ (Exists.intro _ (Exists.intro _ (And.intro hE1 ?_))))
          refine And.intro (fun _ => ?_) (fun h => by cases h)
          refine And.intro rfl (Exists.intro _ (Exists.intro _ (Exists.intro _ (And.intro hE2 ?_))))
          refine And.intro (fun _ => ?_) (fun h => by cases h)
          refine And.intro rfl (Exists.intro _ (Exists.intro _ (Exists.intro _ (And.intro hE3 ?_))))
          refine And.intro (fun _ => ?_) (fun h => by cases h)
          refine And.intro rfl (Exists.intro _ (Exists.intro _ (Exists.intro _ (And.intro hE4 ?_))))
          refine And.intro (fun _ => ?_) (fun h => by cases h)
          refine And.intro rfl (Exists.intro _ (Exists.intro _ (Exists.intro _ (And.intro (awake_spec _ []) ?_))))
          exact Exists.intro _ (And.intro rfl (And.intro rfl (And.intro ((((hm.trans (More.app H E1)).trans (More.app _ E2)).trans (More.app _ E3)).trans (More.app _ E4)) rfl)))
        · have _ := trivial
          refine And.intro (fun _ => ?_) (fun h => by cases h)
          refine And.intro (fun _ => ?_) (fun h => by cases h)
          refine And.intro rfl (Exists.intro _ (Exists.intro _ (Exists.intro _ (And.intro hE1 ?_))))
          refine And.intro (fun _ => ?_) (fun h => by cases h)
          refine And.intro rfl (Exists.intro _ (Exists.intro _ (Exists.intro _ (And.intro hE2 ?_))))
          refine And.intro (fun _ => ?_) (fun h => by cases h)
          refine And.intro rfl (Exists.intro _ (Exists.intro _ (Exists.intro _ (And.intro hE3 ?_))))
          refine And.intro (fun _ => ?_) (fun h => by cases h)
          refine And.intro rfl (Exists.intro _ (Exists.intro _ (Exists.intro _ (And.intro hE4 ?_))))
          refine And.intro (fun _ => ?_) (fun h => by cases h)
          refine And.intro rfl (Exists.intro _ (Exists.intro _ (Exists.intro _ (And.intro (awake_spec _ []) ?_))))
          exact Exists.intro _ (And.intro rfl (And.intro rfl (And.intro ((((hm.trans (More.app H E1)).trans (More.app _ E2)).trans (More.app _ E3)).trans (More.app _ E4)) rfl)))
      · have _ := trivial
        rcases hc with ⟨rfl, _⟩ | ⟨_, rfl⟩
        · have _ := trivial
          refine And.intro (fun _ => ?_) (fun h => by cases h)
          refine And.intro (fun _ => ?_) (fun h => by cases h)
          refine And.intro rfl (Exists.intro _ (Exists.intro _ (Exists.intro _ (And.intro hE1 ?_))))
          refine And.intro (fun _ => ?_) (fun h => by cases h)
          refine And.intro rfl (Exists.intro _ (Exists.intro _ (Exists.intro _ (And.intro hE2 ?_))))
          refine And.intro (fun _ => ?_) (fun h => by cases h)
          refine And.intro rfl (Exists.intro _ (Exists.intro _ (Exists.intro _ (And.intro hE3 ?_))))
          refine And.intro (fun _ => ?_) (fun h => by cases h)
          refine And.intro rfl (Exists.intro _ (Exists.intro _ (Exists.intro _ (And.intro hE4 ?_))))
          refine And.intro (fun _ => ?_) (fun h => by cases h)
          refine And.intro rfl (Exists.intro _ (Exists.intro _ (Exists.intro _ (And.intro (awake_spec _ []) ?_))))
          exact Exists.intro _ (And.intro rfl (And.intro rfl (And.intro ((((hm.trans (More.app H E1)).trans (More.app _ E2)).trans (More.app _ E3)).trans (More.app _ E4)) rfl)))
        · have _ := trivial
          refine And.intro (fun _ => ?_) (fun h => by cases h)
          refine And.intro (fun _ => ?_) (fun h => by cases h)
          refine And.intro rfl (Exists.intro _ (Exists.intro _ (Exists.intro _ (And.intro hE1 ?_))))
          refine And.intro (fun _ => ?_) (fun h => by cases h)
          refine And.intro rfl (Exists.intro _ (Exists.intro _ (Exists.intro _ (And.intro hE2 ?_))))
          refine And.intro (fun _ => ?_) (fun h => by cases h)
          refine And.intro rfl (Exists.intro _ (Exists.intro _ (Exists.intro _ (And.intro hE3 ?_))))
          refine And.intro (fun _ => ?_) (fun h => by cases h)
          refine And.intro rfl (Exists.intro _ (Exists.intro _ (Exists.intro _ (And.intro hE4 ?_))))
          refine And.intro (fun _ => ?_) (fun h => by cases h)
          refine And.intro rfl (Exists.intro _ (Exists.intro _ (Exists.intro _ (And.intro (awake_spec _ []) ?_))))
          exact Exists.intro _ (And.intro rfl (And.intro rfl (And.intro ((((hm.trans (More.app H E1)).trans (More.app _ E2)).trans (More.app _ E3)).trans (More.app _ E4)) rfl)))
    · have _ := trivial
      rcases hb with ⟨rfl, _⟩ | ⟨_, rfl⟩
      · have _ := trivial
        rcases hc with ⟨rfl, _⟩ | ⟨_, rfl⟩
        · have _ := trivial
          refine And.intro (fun _ => ?_) (fun h => by cases h)
          refine And.intro (fun _ => ?_) (fun h => by cases h)
          refine And.intro rfl (Exists.intro _ (Exists.intro _ (Exists.intro _ (And.intro hE1 ?_))))
          refine And.intro (fun _ => ?_) (fun h => by cases h)
          refine And.intro rfl (Exists.intro _ (Exists.intro _ (Exists.intro _ (And.intro hE2 ?_))))
          refine And.intro (fun _ => ?_) (fun h => by cases h)
          refine And.intro rfl (Exists.intro _ (Exists.intro _ (Exists.intro _ (And.intro hE3 ?_))))
          refine And.intro (fun _ => ?_) (fun h => by cases h)
          refine And.intro rfl (Exists.intro _ (Exists.intro _ (Exists.intro _ (And.intro hE4 ?_))))
          refine And.intro (fun _ => ?_) (fun h => by cases h)
          refine And.intro rfl (Exists.intro _ (Exists.intro _ (Exists.intro _ (And.intro (awake_spec _ []) ?_))))
          exact Exists.intro _ (And.intro rfl (And.intro rfl (And.intro ((((hm.trans (More.app H E1)).trans (More.app _ E2)).trans (More.app _ E3)).trans (More.app _ E4)) rfl)))
        · have _ := trivial
          refine And.intro (fun _ => ?_) (fun h => by cases h)
          refine And.intro (fun _ => ?_) (fun h => by cases h)
          refine And.intro rfl (Exists.intro _ (Exists.intro _ (Exists.intro _ (And.intro hE1 ?_))))
          refine And.intro (fun _ => ?_) (fun h => by cases h)
          refine And.intro rfl (Exists.intro _ (Exists.intro _ (Exists.intro _ (And.intro hE2 ?_))))
          refine And.intro (fun _ => ?_) (fun h => by cases h)
          refine And.intro rfl (Exists.intro _ (Exists.intro _ (Exists.intro _ (And.intro hE3 ?_))))
          refine And.intro (fun _ => ?_) (fun h => by cases h)
          refine And.intro rfl (Exists.intro _ (Exists.intro _ (Exists.intro _ (And.intro hE4 ?_))))
          refine And.intro (fun _ => ?_) (fun h => by cases h)
          refine And.intro rfl (Exists.intro _ (Exists.intro _ (Exists.intro _ (And.intro (awake_spec _ []) ?_))))
          exact Exists.intro _ (And.intro rfl (And.intro rfl (And.intro ((((hm.trans (More.app H E1)).trans (More.app _ E2)).trans (More.app _ E3)).trans (More.app _ E4)) rfl)))
      · have _ := trivial
        rcases hc with ⟨rfl, _⟩ | ⟨_, rfl⟩
        · have _ := trivial
          refine And.intro (fun _ => ?_) (fun h => by cases h)
          refine And.intro (fun _ => ?_) (fun h => by cases h)
          refine And.intro rfl (Exists.intro _ (Exists.intro _ (Exists.intro _ (And.intro hE1 ?_))))
          refine And.intro (fun _ => ?_) (fun h => by cases h)
          refine And.intro rfl (Exists.intro _ (Exists.intro _ (Exists.intro _ (And.intro hE2 ?_))))
          refine And.intro (fun _ => ?_) (fun h => by cases h)
          refine And.intro rfl (Exists.intro _ (Exists.intro _ (Exists.intro _ (And.intro hE3 ?_))))
          refine And.intro (fun _ => ?_) (fun h => by cases h)
          refine And.intro rfl (Exists.intro _ (Exists.intro _ (Exists.intro _ (And.intro hE4 ?_))))
          refine And.intro (fun _ => ?_) (fun h => by cases h)
          refine And.intro rfl (Exists.intro _ (Exists.intro _ (Exists.intro _ (And.intro (awake_spec _ []) ?_))))
          exact Exists.intro _ (And.intro rfl (And.intro rfl (And.intro ((((hm.trans (More.app H E1)).trans (More.app _ E2)).trans (More.app _ E3)).trans (More.app _ E4)) rfl)))
        · have _ := trivial
          refine And.intro (fun _ => ?_) (fun h => by cases h)
          refine And.intro (fun _ => ?_) (fun h => by cases h)
          refine And.intro rfl (Exists.intro _ (Exists.intro _ (Exists.intro _ (And.intro hE1 ?_))))
          refine And.intro (fun _ => ?_) (fun h => by cases h)
          refine And.intro rfl (Exists.intro _ (Exists.intro _ (Exists.intro _ (And.intro hE2 ?_))))
          refine And.intro (fun _ => ?_) (fun h => by cases h)
          refine And.intro rfl (Exists.intro _ (Exists.intro _ (Exists.intro _ (And.intro hE3 ?_))))
          refine And.intro (fun _ => ?_) (fun h => by cases h)
          refine And.intro rfl (Exists.intro _ (Exists.intro _ (Exists.intro _ (And.intro hE4 ?_))))
          refine And.intro (fun _ => ?_) (fun h => by cases h)
          refine And.intro rfl (Exists.intro _ (Exists.intro _ (Exists.intro _ (And.intro (awake_spec _ []) ?_))))
          exact Exists.intro _ (And.intro rfl (And.intro rfl (And.intro ((((hm.trans (More.app H E1)).trans (More.app _ E2)).trans (More.app _ E3)).trans (More.app _ E4)) rfl)))
  · have _ := trivial
    rcases hd with ⟨rfl, _⟩ | ⟨_, rfl⟩
    · have _ := trivial
      rcases hb with ⟨rfl, _⟩ | ⟨_, rfl⟩
      · have _ := trivial
        rcases hc with ⟨rfl, _⟩ | ⟨_, rfl⟩
        · have _ := trivial
          refine And.intro (fun _ => ?_) (fun h => by cases h)
          refine And.intro (fun _ => ?_) (fun h => by cases h)
          refine And.intro rfl (Exists.intro _ (Exists.intro _ (Exists.intro _ (And.intro hE1 ?_))))
          refine And.intro (fun _ => ?_) (fun h => by cases h)
          refine And.intro rfl (Exists.intro _ (Exists.intro _ (Exists.intro _ (And.intro hE2 ?_))))
          refine And.intro (fun _ => ?_) (fun h => by cases h)
          refine And.intro rfl (Exists.intro _ (Exists.intro _ (Exists.intro _ (And.intro hE3 ?_))))
          refine And.intro (fun _ => ?_) (fun h => by cases h)
          refine And.intro rfl (Exists.intro _ (Exists.intro _ (Exists.intro _ (And.intro hE4 ?_))))
          refine And.intro (fun _ => ?_) (fun h => by cases h)
          refine And.intro rfl (Exists.intro _ (Exists.intro _ (Exists.intro _ (And.intro (awake_spec _ []) ?_))))
          exact Exists.intro _ (And.intro rfl (And.intro rfl (And.intro ((((hm.trans (More.app H E1)).trans (More.app _ E2)).trans (More.app _ E3)).trans (More.app _ E4)) rfl)))
        · have _ := trivial
          refine And.intro (fun _ => ?_) (fun h => by cases h)
          refine And.intro (fun _ => ?_) (fun h => by cases h)
          refine And.intro rfl (Exists.intro _ (Exists.intro _ (Exists.intro _ (And.intro hE1 ?_))))
          refine And.intro (fun _ => ?_) (fun h => by cases h)
          refine And.intro rfl (Exists.intro _ (Exists.intro _ (Exists.intro _ (And.intro hE2 ?_))))
          refine And.intro (fun _ => ?_) (fun h => by cases h)
          refine And.intro rfl (Exists.intro _ (Exists.intro _ (Exists.intro _ (And.intro hE3 ?_))))
          refine And.intro (fun _ => ?_) (fun h => by cases h)
          refine And.intro rfl (Exists.intro _ (Exists.intro _ (Exists.intro _ (And.intro hE4 ?_))))
          refine And.intro (fun _ => ?_) (fun h => by cases h)
          refine And.intro rfl (Exists.intro _ (Exists.intro _ (Exists.intro _ (And.intro (awake_spec _ []) ?_))))
          exact Exists.intro _ (And.intro rfl (And.intro rfl (And.intro ((((hm.trans (More.app H E1)).trans (More.app _ E2)).trans (More.app _ E3)).trans (More.app _ E4)) rfl)))
      · have _ := trivial
        rcases hc with ⟨rfl, _⟩ | ⟨_, rfl⟩
        · have _ := trivial
          refine And.intro (fun _ => ?_) (fun h => by cases h)
          refine And.intro (fun _ => ?_) (fun h => by cases h)
          refine And.intro rfl (Exists.intro _ (Exists.intro _ (Exists.intro _ (And.intro hE1 ?_))))
          refine And.intro (fun _ => ?_) (fun h => by cases h)
          refine And.intro rfl (Exists.intro _ (Exists.intro _ (Exists.intro _ (And.intro hE2 ?_))))
          refine And.intro (fun _ => ?_) (fun h => by cases h)
          refine And.intro rfl (Exists.intro _ (Exists.intro _ (Exists.intro _ (And.intro hE3 ?_))))
          refine And.intro (fun _ => ?_) (fun h => by cases h)
          refine And.intro rfl (Exists.intro _ (Exists.intro _ (Exists.intro _ (And.intro hE4 ?_))))
          refine And.intro (fun _ => ?_) (fun h => by cases h)
          refine And.intro rfl (Exists.intro _ (Exists.intro _ (Exists.intro _ (And.intro (awake_spec _ []) ?_))))
          exact Exists.intro _ (And.intro rfl (And.intro rfl (And.intro ((((hm.trans (More.app H E1)).trans (More.app _ E2)).trans (More.app _ E3)).trans (More.app _ E4)) rfl)))
        · have _ := trivial
          refine And.intro (fun _ => ?_) (fun h => by cases h)
          refine And.intro (fun _ => ?_) (fun h => by cases h)
          refine And.intro rfl (Exists.intro _ (Exists.intro _ (Exists.intro _ (And.intro hE1 ?_))))
          refine And.intro (fun _ => ?_) (fun h => by cases h)
          refine And.intro rfl (Exists.intro _ (Exists.intro _ (Exists.intro _ (And.intro hE2 ?_))))
          refine And.intro (fun _ => ?_) (fun h => by cases h)
          refine And.intro rfl (Exists.intro _ (Exists.intro _ (Exists.intro _ (And.intro hE3 ?_))))
          refine And.intro (fun _ => ?_) (fun h => by cases h)
          refine And.intro rfl (Exists.intro _ (Exists.intro _ (Exists.intro _ (And.intro hE4 ?_))))
          refine And.intro (fun _ => ?_) (fun h => by cases h)
          refine And.intro rfl (Exists.intro _ (Exists.intro _ (Exists.intro _ (And.intro (awake_spec _ []) ?_))))
          exact Exists.intro _ (And.intro rfl (And.intro rfl (And.intro ((((hm.trans (More.app H E1)).trans (More.app _ E2)).trans (More.app _ E3)).trans (More.app _ E4)) rfl)))
    · have _ := trivial
      rcases hb with ⟨rfl, _⟩ | ⟨_, rfl⟩
      · have _ := trivial
        rcases hc with ⟨rfl, _⟩ | ⟨_, rfl⟩
        · have _ := trivial
          refine And.intro (fun _ => ?_) (fun h => by cases h)
          refine And.intro (fun _ => ?_) (fun h => by cases h)
          refine And.intro rfl (Exists.intro _ (Exists.intro _ (Exists.intro _ (And.intro hE1 ?_))))
          refine And.intro (fun _ => ?_) (fun h => by cases h)
          refine And.intro rfl (Exists.intro _ (Exists.intro _ (Exists.intro _ (And.intro hE2 ?_))))
          refine And.intro (fun _ => ?_) (fun h => by cases h)
          refine And.intro rfl (Exists.intro _ (Exists.intro _ (Exists.intro _ (And.intro hE3 ?_))))
          refine And.intro (fun _ => ?_) (fun h => by cases h)
          refine And.intro rfl (Exists.intro _ (Exists.intro _ (Exists.intro _ (And.intro hE4 ?_))))
          refine And.intro (fun _ => ?_) (fun h => by cases h)
          refine And.intro rfl (Exists.intro _ (Exists.intro _ (Exists.intro _ (And.intro (awake_spec _ []) ?_))))
          exact Exists.intro _ (And.intro rfl (And.intro rfl (And.intro ((((hm.trans (More.app H E1)).trans (More.app _ E2)).trans (More.app _ E3)).trans (More.app _ E4)) rfl)))
        · have _ := trivial
          refine And.intro (fun _ => ?_) (fun h => by cases h)
          refine And.intro (fun _ => ?_) (fun h => by cases h)
          refine And.intro rfl (Exists.intro _ (Exists.intro _ (Exists.intro _ (And.intro hE1 ?_))))
          refine And.intro (fun _ => ?_) (fun h => by cases h)
          refine And.intro rfl (Exists.intro _ (Exists.intro _ (Exists.intro _ (And.intro hE2 ?_))))
          refine And.intro (fun _ => ?_) (fun h => by cases h)
          refine And.intro rfl (Exists.intro _ (Exists.intro _ (Exists.intro _ (And.intro hE3 ?_))))
          refine And.intro (fun _ => ?_) (fun h => by cases h)
          refine And.intro rfl (Exists.intro _ (Exists.intro _ (Exists.intro _ (And.intro hE4 ?_))))
          refine And.intro (fun _ => ?_) (fun h => by cases h)
          refine And.intro rfl (Exists.intro _ (Exists.intro _ (Exists.intro _ (And.intro (awake_spec _ []) ?_))))
          exact Exists.intro _ (And.intro rfl (And.intro rfl (And.intro ((((hm.trans (More.app H E1)).trans (More.app _ E2)).trans (More.app _ E3)).trans (More.app _ E4)) rfl)))
      · have _ := trivial
        rcases hc with ⟨rfl, _⟩ | ⟨_, rfl⟩
        · have _ := trivial
          refine And.intro (fun _ => ?_) (fun h => by cases h)
          refine And.intro (fun _ => ?_) (fun h => by cases h)
          refine And.intro rfl (Exists.intro _ (Exists.intro _ (Exists.intro _ (And.intro hE1 ?_))))
          refine And.intro (fun _ => ?_) (fun h => by cases h)
          refine And.intro rfl (Exists.intro _ (Exists.intro _ (Exists.intro _ (And.intro hE2 ?_))))
          refine And.intro (fun _ => ?_) (fun h => by cases h)
          refine And.intro rfl (Exists.intro _ (Exists.intro _ (Exists.intro _ (And.intro hE3 ?_))))
          refine And.intro (fun _ => ?_) (fun h => by cases h)
          refine And.intro rfl (Exists.intro _ (Exists.intro _ (Exists.intro _ (And.intro hE4 ?_))))
          refine And.intro (fun _ => ?_) (fun h => by cases h)
          refine And.intro rfl (Exists.intro _ (Exists.intro _ (Exists.intro _ (And.intro (awake_spec _ []) ?_))))
          exact Exists.intro _ (And.intro rfl (And.intro rfl (And.intro ((((hm.trans (More.app H E1)).trans (More.app _ E2)).trans (More.app _ E3)).trans (More.app _ E4)) rfl)))
        · have _ := trivial
          refine And.intro (fun _ => ?_) (fun h => by cases h)
          refine And.intro (fun _ => ?_) (fun h => by cases h)
          refine And.intro rfl (Exists.intro _ (Exists.intro _ (Exists.intro _ (And.intro hE1 ?_))))
          refine And.intro (fun _ => ?_) (fun h => by cases h)
          refine And.intro rfl (Exists.intro _ (Exists.intro _ (Exists.intro _ (And.intro hE2 ?_))))
          refine And.intro (fun _ => ?_) (fun h => by cases h)
          refine And.intro rfl (Exists.intro _ (Exists.intro _ (Exists.intro _ (And.intro hE3 ?_))))
          refine And.intro (fun _ => ?_) (fun h => by cases h)
          refine And.intro rfl (Exists.intro _ (Exists.intro _ (Exists.intro _ (And.intro hE4 ?_))))
          refine And.intro (fun _ => ?_) (fun h => by cases h)
          refine And.intro rfl (Exists.intro _ (Exists.intro _ (Exists.intro _ (And.intro (awake_spec _ []) ?_))))
          exact Exists.intro _ (And.intro rfl (And.intro rfl (And.intro ((((hm.trans (More.app H E1)).trans (More.app _ E2)).trans (More.app _ E3)).trans (More.app _ E4)) rfl)))
theorem dropR_true {l : List Row} {ms : List Int} {bot : Bool} {y : AV} (ho : orderP l = true) (h : dropR l ms bot y) : ∃ x, y = .tup [x, .int .i64 0] ∧ IsRows x (dropP l ms bot) := by
  rcases h with ⟨h, _⟩ | ⟨_, h⟩
  · rw [ho] at h; cases h
  · exact h
theorem again_R {l : List Row} {ms : List Int} {bot : Bool} {y : AV} (ho : orderP l = true) (hs : SeqOk l) (h : dropR (dropP l ms bot) ms bot y) : ∃ x, y = .tup [x, .int .i64 0] ∧ IsRows x (dropP l ms bot) := by
  obtain ⟨x, h1, h2⟩ := dropR_true (of_ord ((ord_of ho).sub (drop_sub ho hs ms bot))) h
  rw [drop_again ho hs] at h2
  exact ⟨x, h1, h2⟩

theorem again_nil_nil_nil (hs : SeqOk []) (bot : Bool) : GivesE Try.prog K0 5 [.nils, .nils, .nils, .bool bot] (fun y => y = .bool true) := by
  refine givesE_by Try.func5 rfl rfl rfl fun H => ?_
  have hy : IsRows (.nils) [] := .inl ⟨rfl, rfl⟩
  have hz' : IsMarks (.nils) [] := .inl ⟨rfl, rfl⟩
  refine And.intro (fun h => by cases h) (fun _ => ?_)
  have hlt : ([] : List Row).length ≤ 200 := Nat.zero_le _
  refine And.intro (fun h => by cases h) (fun _ => ?_)
  have hlm : ([] : List Int).length ≤ 50 := Nat.zero_le _
  refine And.intro (fun h => by cases h) (fun _ => ?_)
  have hlu : ([] : List Int).length ≤ 50 := Nat.zero_le _
  obtain ⟨y, E1, hyy, hE1⟩ := drop_spec hy hz' (by omega) (by omega) bot H
  refine And.intro rfl (Exists.intro _ (Exists.intro _ (Exists.intro _ (And.intro hE1 ?_))))
  rcases hyy with ⟨ho, rfl⟩ | ⟨ho, xd, rfl, hxd⟩
  · refine And.intro (fun _ => ?_) (fun h => by cases h)
    refine And.intro (fun _ => ?_) (fun h => by cases h)
    refine And.intro rfl (Exists.intro _ (Exists.intro _ (Exists.intro _ (And.intro (awake_spec _ []) ?_))))
    exact Exists.intro _ (And.intro rfl (And.intro rfl (And.intro (More.app H E1) rfl)))
  have hal := drop_sub ho hs [] bot
  have hoa : orderP (dropP [] [] bot) = true := of_ord ((ord_of ho).sub hal)
  have hln := hal.length_le
  obtain ⟨y2, E2, hy2, hE2⟩ := drop_spec hxd hz' (by omega) (by omega) bot (H ++ E1)
  obtain ⟨xb, rfl, hxb⟩ := again_R ho hs hy2
  have hzz : IsMarks (.lst 23 (([] ++ [] : List Int).map (AV.int .u64)) []) ([] ++ []) := .inr ⟨[], rfl⟩
  obtain ⟨y3, E3, hy3, hE3⟩ := drop_spec hy hzz (by omega) (by rw [List.length_append]; omega) bot ((H ++ E1) ++ E2)
  rcases hy3 with ⟨ho3, _⟩ | ⟨_, xc, rfl, hxc⟩
  · rw [ho] at ho3; cases ho3
  have hmm : More H (((H ++ E1) ++ E2) ++ E3) := ((More.app H E1).trans (More.app _ E2)).trans (More.app _ E3)
  have hend := again_end H hy hxd hxb hxc (by omega) hal (drop_more ho hs [] [] bot) (drop_sub ho hs ([] ++ []) bot) (((H ++ E1) ++ E2) ++ E3) hmm
  rcases hxd with ⟨rfl, hd0⟩ | ⟨sd, rfl⟩
  · have _ := trivial
    refine And.intro (fun h => by cases h) (fun _ => ?_)
    refine And.intro rfl (Exists.intro _ (Exists.intro _ (Exists.intro _ (And.intro hE2 ?_))))
    rcases hxb with ⟨rfl, hb0⟩ | ⟨sb, rfl⟩
    · refine Exists.intro _ (And.intro rfl ?_)
      refine And.intro rfl (And.intro rfl (And.intro (Nat.le_of_ble_eq_true rfl) (And.intro (Nat.le_of_ble_eq_true rfl) (And.intro (Nat.le_of_ble_eq_true rfl) (And.intro rfl (Exists.intro (([] : List Int).map (AV.int .u64)) (And.intro rfl ?_)))))))
      refine Exists.intro _ (And.intro rfl ?_)
      refine And.intro rfl (And.intro rfl (And.intro (?_ : ((([] : List Int).map (AV.int .u64)).length + 0) * 8 ≤ 140737488355328) (And.intro (?_ : (([] : List Int).map (AV.int .u64)).length + 0 ≤ 140737488355328) (And.intro (Nat.le_of_ble_eq_true rfl) (And.intro rfl (Exists.intro (([] ++ [] : List Int).map (AV.int .u64)) (And.intro (by rw [List.map_append]; rfl) ?_)))))))
      · rw [List.length_map]; omega
      · rw [List.length_map]; omega
      refine And.intro rfl (Exists.intro _ (Exists.intro _ (Exists.intro _ (And.intro hE3 ?_))))
      rcases hxc with ⟨rfl, hc0⟩ | ⟨sc, rfl⟩
      · exact And.intro (And.left hend) (And.right hend)
      · exact And.intro (And.left hend) (And.right hend)
    · refine Exists.intro _ (And.intro rfl ?_)
      refine And.intro rfl (And.intro rfl (And.intro (Nat.le_of_ble_eq_true rfl) (And.intro (Nat.le_of_ble_eq_true rfl) (And.intro (Nat.le_of_ble_eq_true rfl) (And.intro rfl (Exists.intro (([] : List Int).map (AV.int .u64)) (And.intro rfl ?_)))))))
      refine Exists.intro _ (And.intro rfl ?_)
      refine And.intro rfl (And.intro rfl (And.intro (?_ : ((([] : List Int).map (AV.int .u64)).length + 0) * 8 ≤ 140737488355328) (And.intro (?_ : (([] : List Int).map (AV.int .u64)).length + 0 ≤ 140737488355328) (And.intro (Nat.le_of_ble_eq_true rfl) (And.intro rfl (Exists.intro (([] ++ [] : List Int).map (AV.int .u64)) (And.intro (by rw [List.map_append]; rfl) ?_)))))))
      · rw [List.length_map]; omega
      · rw [List.length_map]; omega
      refine And.intro rfl (Exists.intro _ (Exists.intro _ (Exists.intro _ (And.intro hE3 ?_))))
      rcases hxc with ⟨rfl, hc0⟩ | ⟨sc, rfl⟩
      · exact And.intro (And.left hend) (And.right hend)
      · exact And.intro (And.left hend) (And.right hend)
  · have _ := trivial
    refine And.intro (fun h => by cases h) (fun _ => ?_)
    refine And.intro rfl (Exists.intro _ (Exists.intro _ (Exists.intro _ (And.intro hE2 ?_))))
    rcases hxb with ⟨rfl, hb0⟩ | ⟨sb, rfl⟩
    · refine Exists.intro _ (And.intro rfl ?_)
      refine And.intro rfl (And.intro rfl (And.intro (Nat.le_of_ble_eq_true rfl) (And.intro (Nat.le_of_ble_eq_true rfl) (And.intro (Nat.le_of_ble_eq_true rfl) (And.intro rfl (Exists.intro (([] : List Int).map (AV.int .u64)) (And.intro rfl ?_)))))))
      refine Exists.intro _ (And.intro rfl ?_)
      refine And.intro rfl (And.intro rfl (And.intro (?_ : ((([] : List Int).map (AV.int .u64)).length + 0) * 8 ≤ 140737488355328) (And.intro (?_ : (([] : List Int).map (AV.int .u64)).length + 0 ≤ 140737488355328) (And.intro (Nat.le_of_ble_eq_true rfl) (And.intro rfl (Exists.intro (([] ++ [] : List Int).map (AV.int .u64)) (And.intro (by rw [List.map_append]; rfl) ?_)))))))
      · rw [List.length_map]; omega
      · rw [List.length_map]; omega
      refine And.intro rfl (Exists.intro _ (Exists.intro _ (Exists.intro _ (And.intro hE3 ?_))))
      rcases hxc with ⟨rfl, hc0⟩ | ⟨sc, rfl⟩
      · exact And.intro (And.left hend) (And.right hend)
      · exact And.intro (And.left hend) (And.right hend)
    · refine Exists.intro _ (And.intro rfl ?_)
      refine And.intro rfl (And.intro rfl (And.intro (Nat.le_of_ble_eq_true rfl) (And.intro (Nat.le_of_ble_eq_true rfl) (And.intro (Nat.le_of_ble_eq_true rfl) (And.intro rfl (Exists.intro (([] : List Int).map (AV.int .u64)) (And.intro rfl ?_)))))))
      refine Exists.intro _ (And.intro rfl ?_)
      refine And.intro rfl (And.intro rfl (And.intro (?_ : ((([] : List Int).map (AV.int .u64)).length + 0) * 8 ≤ 140737488355328) (And.intro (?_ : (([] : List Int).map (AV.int .u64)).length + 0 ≤ 140737488355328) (And.intro (Nat.le_of_ble_eq_true rfl) (And.intro rfl (Exists.intro (([] ++ [] : List Int).map (AV.int .u64)) (And.intro (by rw [List.map_append]; rfl) ?_)))))))
      · rw [List.length_map]; omega
      · rw [List.length_map]; omega
      refine And.intro rfl (Exists.intro _ (Exists.intro _ (Exists.intro _ (And.intro hE3 ?_))))
      rcases hxc with ⟨rfl, hc0⟩ | ⟨sc, rfl⟩
      · exact And.intro (And.left hend) (And.right hend)
      · exact And.intro (And.left hend) (And.right hend)
theorem again_nil_nil_lst (more : List Int) (su : List AV) (hs : SeqOk []) (bot : Bool) : GivesE Try.prog K0 5 [.nils, .nils, .lst 23 (more.map (AV.int .u64)) su, .bool bot] (fun y => y = .bool true) := by
  refine givesE_by Try.func5 rfl rfl rfl fun H => ?_
  have hy : IsRows (.nils) [] := .inl ⟨rfl, rfl⟩
  have hz' : IsMarks (.nils) [] := .inl ⟨rfl, rfl⟩
  refine And.intro (fun h => by cases h) (fun _ => ?_)
  have hlt : ([] : List Row).length ≤ 200 := Nat.zero_le _
  refine And.intro (fun h => by cases h) (fun _ => ?_)
  have hlm : ([] : List Int).length ≤ 50 := Nat.zero_le _
  refine And.intro (fun _ => ?_) (fun h3 => ?_)
  · refine And.intro rfl (Exists.intro _ (Exists.intro _ (Exists.intro _ (And.intro (awake_spec H []) ?_))))
    exact Exists.intro _ (And.intro rfl (And.intro rfl (And.intro (More.refl H) rfl)))
  have hlu : more.length ≤ 50 := by
    have h3 := dec_false (p := ((more.map (AV.int .u64)).length : Int) > 50) h3
    rw [List.length_map] at h3
    omega
  obtain ⟨y, E1, hyy, hE1⟩ := drop_spec hy hz' (by omega) (by omega) bot H
  refine And.intro rfl (Exists.intro _ (Exists.intro _ (Exists.intro _ (And.intro hE1 ?_))))
  rcases hyy with ⟨ho, rfl⟩ | ⟨ho, xd, rfl, hxd⟩
  · refine And.intro (fun _ => ?_) (fun h => by cases h)
    refine And.intro (fun _ => ?_) (fun h => by cases h)
    refine And.intro rfl (Exists.intro _ (Exists.intro _ (Exists.intro _ (And.intro (awake_spec _ []) ?_))))
    exact Exists.intro _ (And.intro rfl (And.intro rfl (And.intro (More.app H E1) rfl)))
  have hal := drop_sub ho hs [] bot
  have hoa : orderP (dropP [] [] bot) = true := of_ord ((ord_of ho).sub hal)
  have hln := hal.length_le
  obtain ⟨y2, E2, hy2, hE2⟩ := drop_spec hxd hz' (by omega) (by omega) bot (H ++ E1)
  obtain ⟨xb, rfl, hxb⟩ := again_R ho hs hy2
  have hzz : IsMarks (.lst 23 (([] ++ more : List Int).map (AV.int .u64)) []) ([] ++ more) := .inr ⟨[], rfl⟩
  obtain ⟨y3, E3, hy3, hE3⟩ := drop_spec hy hzz (by omega) (by rw [List.length_append]; omega) bot ((H ++ E1) ++ E2)
  rcases hy3 with ⟨ho3, _⟩ | ⟨_, xc, rfl, hxc⟩
  · rw [ho] at ho3; cases ho3
  have hmm : More H (((H ++ E1) ++ E2) ++ E3) := ((More.app H E1).trans (More.app _ E2)).trans (More.app _ E3)
  have hend := again_end H hy hxd hxb hxc (by omega) hal (drop_more ho hs [] more bot) (drop_sub ho hs ([] ++ more) bot) (((H ++ E1) ++ E2) ++ E3) hmm
  rcases hxd with ⟨rfl, hd0⟩ | ⟨sd, rfl⟩
  · have _ := trivial
    refine And.intro (fun h => by cases h) (fun _ => ?_)
    refine And.intro rfl (Exists.intro _ (Exists.intro _ (Exists.intro _ (And.intro hE2 ?_))))
    rcases hxb with ⟨rfl, hb0⟩ | ⟨sb, rfl⟩
    · refine Exists.intro _ (And.intro rfl ?_)
      refine And.intro rfl (And.intro rfl (And.intro (Nat.le_of_ble_eq_true rfl) (And.intro (Nat.le_of_ble_eq_true rfl) (And.intro (Nat.le_of_ble_eq_true rfl) (And.intro rfl (Exists.intro (([] : List Int).map (AV.int .u64)) (And.intro rfl ?_)))))))
      refine Exists.intro _ (And.intro rfl ?_)
      refine And.intro rfl (And.intro rfl (And.intro (?_ : ((([] : List Int).map (AV.int .u64)).length + (more.map (AV.int .u64)).length) * 8 ≤ 140737488355328) (And.intro (?_ : (([] : List Int).map (AV.int .u64)).length + (more.map (AV.int .u64)).length ≤ 140737488355328) (And.intro (Nat.le_of_ble_eq_true rfl) (And.intro rfl (Exists.intro (([] ++ more : List Int).map (AV.int .u64)) (And.intro (by rw [List.map_append]) ?_)))))))
      · rw [List.length_map, List.length_map]; omega
      · rw [List.length_map, List.length_map]; omega
      refine And.intro rfl (Exists.intro _ (Exists.intro _ (Exists.intro _ (And.intro hE3 ?_))))
      rcases hxc with ⟨rfl, hc0⟩ | ⟨sc, rfl⟩
      · exact And.intro (And.left hend) (And.right hend)
      · exact And.intro (And.left hend) (And.right hend)
    · refine Exists.intro _ (And.intro rfl ?_)
      refine And.intro rfl (And.intro rfl (And.intro (Nat.le_of_ble_eq_true rfl) (And.intro (Nat.le_of_ble_eq_true rfl) (And.intro (Nat.le_of_ble_eq_true rfl) (And.intro rfl (Exists.intro (([] : List Int).map (AV.int .u64)) (And.intro rfl ?_)))))))
      refine Exists.intro _ (And.intro rfl ?_)
      refine And.intro rfl (And.intro rfl (And.intro (?_ : ((([] : List Int).map (AV.int .u64)).length + (more.map (AV.int .u64)).length) * 8 ≤ 140737488355328) (And.intro (?_ : (([] : List Int).map (AV.int .u64)).length + (more.map (AV.int .u64)).length ≤ 140737488355328) (And.intro (Nat.le_of_ble_eq_true rfl) (And.intro rfl (Exists.intro (([] ++ more : List Int).map (AV.int .u64)) (And.intro (by rw [List.map_append]) ?_)))))))
      · rw [List.length_map, List.length_map]; omega
      · rw [List.length_map, List.length_map]; omega
      refine And.intro rfl (Exists.intro _ (Exists.intro _ (Exists.intro _ (And.intro hE3 ?_))))
      rcases hxc with ⟨rfl, hc0⟩ | ⟨sc, rfl⟩
      · exact And.intro (And.left hend) (And.right hend)
      · exact And.intro (And.left hend) (And.right hend)
  · have _ := trivial
    refine And.intro (fun h => by cases h) (fun _ => ?_)
    refine And.intro rfl (Exists.intro _ (Exists.intro _ (Exists.intro _ (And.intro hE2 ?_))))
    rcases hxb with ⟨rfl, hb0⟩ | ⟨sb, rfl⟩
    · refine Exists.intro _ (And.intro rfl ?_)
      refine And.intro rfl (And.intro rfl (And.intro (Nat.le_of_ble_eq_true rfl) (And.intro (Nat.le_of_ble_eq_true rfl) (And.intro (Nat.le_of_ble_eq_true rfl) (And.intro rfl (Exists.intro (([] : List Int).map (AV.int .u64)) (And.intro rfl ?_)))))))
      refine Exists.intro _ (And.intro rfl ?_)
      refine And.intro rfl (And.intro rfl (And.intro (?_ : ((([] : List Int).map (AV.int .u64)).length + (more.map (AV.int .u64)).length) * 8 ≤ 140737488355328) (And.intro (?_ : (([] : List Int).map (AV.int .u64)).length + (more.map (AV.int .u64)).length ≤ 140737488355328) (And.intro (Nat.le_of_ble_eq_true rfl) (And.intro rfl (Exists.intro (([] ++ more : List Int).map (AV.int .u64)) (And.intro (by rw [List.map_append]) ?_)))))))
      · rw [List.length_map, List.length_map]; omega
      · rw [List.length_map, List.length_map]; omega
      refine And.intro rfl (Exists.intro _ (Exists.intro _ (Exists.intro _ (And.intro hE3 ?_))))
      rcases hxc with ⟨rfl, hc0⟩ | ⟨sc, rfl⟩
      · exact And.intro (And.left hend) (And.right hend)
      · exact And.intro (And.left hend) (And.right hend)
    · refine Exists.intro _ (And.intro rfl ?_)
      refine And.intro rfl (And.intro rfl (And.intro (Nat.le_of_ble_eq_true rfl) (And.intro (Nat.le_of_ble_eq_true rfl) (And.intro (Nat.le_of_ble_eq_true rfl) (And.intro rfl (Exists.intro (([] : List Int).map (AV.int .u64)) (And.intro rfl ?_)))))))
      refine Exists.intro _ (And.intro rfl ?_)
      refine And.intro rfl (And.intro rfl (And.intro (?_ : ((([] : List Int).map (AV.int .u64)).length + (more.map (AV.int .u64)).length) * 8 ≤ 140737488355328) (And.intro (?_ : (([] : List Int).map (AV.int .u64)).length + (more.map (AV.int .u64)).length ≤ 140737488355328) (And.intro (Nat.le_of_ble_eq_true rfl) (And.intro rfl (Exists.intro (([] ++ more : List Int).map (AV.int .u64)) (And.intro (by rw [List.map_append]) ?_)))))))
      · rw [List.length_map, List.length_map]; omega
      · rw [List.length_map, List.length_map]; omega
      refine And.intro rfl (Exists.intro _ (Exists.intro _ (Exists.intro _ (And.intro hE3 ?_))))
      rcases hxc with ⟨rfl, hc0⟩ | ⟨sc, rfl⟩
      · exact And.intro (And.left hend) (And.right hend)
      · exact And.intro (And.left hend) (And.right hend)
theorem again_nil_lst_nil (ms : List Int) (sm : List AV) (hs : SeqOk []) (bot : Bool) : GivesE Try.prog K0 5 [.nils, .lst 23 (ms.map (AV.int .u64)) sm, .nils, .bool bot] (fun y => y = .bool true) := by
  refine givesE_by Try.func5 rfl rfl rfl fun H => ?_
  have hy : IsRows (.nils) [] := .inl ⟨rfl, rfl⟩
  have hz' : IsMarks (.lst 23 (ms.map (AV.int .u64)) sm) ms := .inr ⟨_, rfl⟩
  refine And.intro (fun h => by cases h) (fun _ => ?_)
  have hlt : ([] : List Row).length ≤ 200 := Nat.zero_le _
  refine And.intro (fun _ => ?_) (fun h2 => ?_)
  · refine And.intro (fun _ => ?_) (fun h => by cases h)
    refine And.intro rfl (Exists.intro _ (Exists.intro _ (Exists.intro _ (And.intro (awake_spec H []) ?_))))
    exact Exists.intro _ (And.intro rfl (And.intro rfl (And.intro (More.refl H) rfl)))
  have hlm : ms.length ≤ 50 := by
    have h2 := dec_false (p := ((ms.map (AV.int .u64)).length : Int) > 50) h2
    rw [List.length_map] at h2
    omega
  refine And.intro (fun h => by cases h) (fun _ => ?_)
  have hlu : ([] : List Int).length ≤ 50 := Nat.zero_le _
  obtain ⟨y, E1, hyy, hE1⟩ := drop_spec hy hz' (by omega) (by omega) bot H
  refine And.intro rfl (Exists.intro _ (Exists.intro _ (Exists.intro _ (And.intro hE1 ?_))))
  rcases hyy with ⟨ho, rfl⟩ | ⟨ho, xd, rfl, hxd⟩
  · refine And.intro (fun _ => ?_) (fun h => by cases h)
    refine And.intro (fun _ => ?_) (fun h => by cases h)
    refine And.intro rfl (Exists.intro _ (Exists.intro _ (Exists.intro _ (And.intro (awake_spec _ []) ?_))))
    exact Exists.intro _ (And.intro rfl (And.intro rfl (And.intro (More.app H E1) rfl)))
  have hal := drop_sub ho hs ms bot
  have hoa : orderP (dropP [] ms bot) = true := of_ord ((ord_of ho).sub hal)
  have hln := hal.length_le
  obtain ⟨y2, E2, hy2, hE2⟩ := drop_spec hxd hz' (by omega) (by omega) bot (H ++ E1)
  obtain ⟨xb, rfl, hxb⟩ := again_R ho hs hy2
  have hzz : IsMarks (.lst 23 ((ms ++ [] : List Int).map (AV.int .u64)) []) (ms ++ []) := .inr ⟨[], rfl⟩
  obtain ⟨y3, E3, hy3, hE3⟩ := drop_spec hy hzz (by omega) (by rw [List.length_append]; omega) bot ((H ++ E1) ++ E2)
  rcases hy3 with ⟨ho3, _⟩ | ⟨_, xc, rfl, hxc⟩
  · rw [ho] at ho3; cases ho3
  have hmm : More H (((H ++ E1) ++ E2) ++ E3) := ((More.app H E1).trans (More.app _ E2)).trans (More.app _ E3)
  have hend := again_end H hy hxd hxb hxc (by omega) hal (drop_more ho hs ms [] bot) (drop_sub ho hs (ms ++ []) bot) (((H ++ E1) ++ E2) ++ E3) hmm
  rcases hxd with ⟨rfl, hd0⟩ | ⟨sd, rfl⟩
  · have _ := trivial
    refine And.intro (fun h => by cases h) (fun _ => ?_)
    refine And.intro rfl (Exists.intro _ (Exists.intro _ (Exists.intro _ (And.intro hE2 ?_))))
    rcases hxb with ⟨rfl, hb0⟩ | ⟨sb, rfl⟩
    · refine Exists.intro _ (And.intro rfl ?_)
      refine And.intro rfl (And.intro rfl (And.intro (?_ : (0 + (ms.map (AV.int .u64)).length) * 8 ≤ 140737488355328) (And.intro (?_ : 0 + (ms.map (AV.int .u64)).length ≤ 140737488355328) (And.intro (Nat.le_of_ble_eq_true rfl) (And.intro rfl (Exists.intro (ms.map (AV.int .u64)) (And.intro rfl ?_)))))))
      · rw [List.length_map]; omega
      · rw [List.length_map]; omega
      refine Exists.intro _ (And.intro rfl ?_)
      refine And.intro rfl (And.intro rfl (And.intro (?_ : (((ms : List Int).map (AV.int .u64)).length + 0) * 8 ≤ 140737488355328) (And.intro (?_ : ((ms : List Int).map (AV.int .u64)).length + 0 ≤ 140737488355328) (And.intro (Nat.le_of_ble_eq_true rfl) (And.intro rfl (Exists.intro ((ms ++ [] : List Int).map (AV.int .u64)) (And.intro (by rw [List.map_append]; rfl) ?_)))))))
      · rw [List.length_map]; omega
      · rw [List.length_map]; omega
      refine And.intro rfl (Exists.intro _ (Exists.intro _ (Exists.intro _ (And.intro hE3 ?_))))
      rcases hxc with ⟨rfl, hc0⟩ | ⟨sc, rfl⟩
      · exact And.intro (And.left hend) (And.right hend)
      · exact And.intro (And.left hend) (And.right hend)
    · refine Exists.intro _ (And.intro rfl ?_)
      refine And.intro rfl (And.intro rfl (And.intro (?_ : (0 + (ms.map (AV.int .u64)).length) * 8 ≤ 140737488355328) (And.intro (?_ : 0 + (ms.map (AV.int .u64)).length ≤ 140737488355328) (And.intro (Nat.le_of_ble_eq_true rfl) (And.intro rfl (Exists.intro (ms.map (AV.int .u64)) (And.intro rfl ?_)))))))
      · rw [List.length_map]; omega
      · rw [List.length_map]; omega
      refine Exists.intro _ (And.intro rfl ?_)
      refine And.intro rfl (And.intro rfl (And.intro (?_ : (((ms : List Int).map (AV.int .u64)).length + 0) * 8 ≤ 140737488355328) (And.intro (?_ : ((ms : List Int).map (AV.int .u64)).length + 0 ≤ 140737488355328) (And.intro (Nat.le_of_ble_eq_true rfl) (And.intro rfl (Exists.intro ((ms ++ [] : List Int).map (AV.int .u64)) (And.intro (by rw [List.map_append]; rfl) ?_)))))))
      · rw [List.length_map]; omega
      · rw [List.length_map]; omega
      refine And.intro rfl (Exists.intro _ (Exists.intro _ (Exists.intro _ (And.intro hE3 ?_))))
      rcases hxc with ⟨rfl, hc0⟩ | ⟨sc, rfl⟩
      · exact And.intro (And.left hend) (And.right hend)
      · exact And.intro (And.left hend) (And.right hend)
  · have _ := trivial
    refine And.intro (fun h => by cases h) (fun _ => ?_)
    refine And.intro rfl (Exists.intro _ (Exists.intro _ (Exists.intro _ (And.intro hE2 ?_))))
    rcases hxb with ⟨rfl, hb0⟩ | ⟨sb, rfl⟩
    · refine Exists.intro _ (And.intro rfl ?_)
      refine And.intro rfl (And.intro rfl (And.intro (?_ : (0 + (ms.map (AV.int .u64)).length) * 8 ≤ 140737488355328) (And.intro (?_ : 0 + (ms.map (AV.int .u64)).length ≤ 140737488355328) (And.intro (Nat.le_of_ble_eq_true rfl) (And.intro rfl (Exists.intro (ms.map (AV.int .u64)) (And.intro rfl ?_)))))))
      · rw [List.length_map]; omega
      · rw [List.length_map]; omega
      refine Exists.intro _ (And.intro rfl ?_)
      refine And.intro rfl (And.intro rfl (And.intro (?_ : (((ms : List Int).map (AV.int .u64)).length + 0) * 8 ≤ 140737488355328) (And.intro (?_ : ((ms : List Int).map (AV.int .u64)).length + 0 ≤ 140737488355328) (And.intro (Nat.le_of_ble_eq_true rfl) (And.intro rfl (Exists.intro ((ms ++ [] : List Int).map (AV.int .u64)) (And.intro (by rw [List.map_append]; rfl) ?_)))))))
      · rw [List.length_map]; omega
      · rw [List.length_map]; omega
      refine And.intro rfl (Exists.intro _ (Exists.intro _ (Exists.intro _ (And.intro hE3 ?_))))
      rcases hxc with ⟨rfl, hc0⟩ | ⟨sc, rfl⟩
      · exact And.intro (And.left hend) (And.right hend)
      · exact And.intro (And.left hend) (And.right hend)
    · refine Exists.intro _ (And.intro rfl ?_)
      refine And.intro rfl (And.intro rfl (And.intro (?_ : (0 + (ms.map (AV.int .u64)).length) * 8 ≤ 140737488355328) (And.intro (?_ : 0 + (ms.map (AV.int .u64)).length ≤ 140737488355328) (And.intro (Nat.le_of_ble_eq_true rfl) (And.intro rfl (Exists.intro (ms.map (AV.int .u64)) (And.intro rfl ?_)))))))
      · rw [List.length_map]; omega
      · rw [List.length_map]; omega
      refine Exists.intro _ (And.intro rfl ?_)
      refine And.intro rfl (And.intro rfl (And.intro (?_ : (((ms : List Int).map (AV.int .u64)).length + 0) * 8 ≤ 140737488355328) (And.intro (?_ : ((ms : List Int).map (AV.int .u64)).length + 0 ≤ 140737488355328) (And.intro (Nat.le_of_ble_eq_true rfl) (And.intro rfl (Exists.intro ((ms ++ [] : List Int).map (AV.int .u64)) (And.intro (by rw [List.map_append]; rfl) ?_)))))))
      · rw [List.length_map]; omega
      · rw [List.length_map]; omega
      refine And.intro rfl (Exists.intro _ (Exists.intro _ (Exists.intro _ (And.intro hE3 ?_))))
      rcases hxc with ⟨rfl, hc0⟩ | ⟨sc, rfl⟩
      · exact And.intro (And.left hend) (And.right hend)
      · exact And.intro (And.left hend) (And.right hend)
theorem again_nil_lst_lst (ms : List Int) (sm : List AV) (more : List Int) (su : List AV) (hs : SeqOk []) (bot : Bool) : GivesE Try.prog K0 5 [.nils, .lst 23 (ms.map (AV.int .u64)) sm, .lst 23 (more.map (AV.int .u64)) su, .bool bot] (fun y => y = .bool true) := by
  refine givesE_by Try.func5 rfl rfl rfl fun H => ?_
  have hy : IsRows (.nils) [] := .inl ⟨rfl, rfl⟩
  have hz' : IsMarks (.lst 23 (ms.map (AV.int .u64)) sm) ms := .inr ⟨_, rfl⟩
  refine And.intro (fun h => by cases h) (fun _ => ?_)
  have hlt : ([] : List Row).length ≤ 200 := Nat.zero_le _
  refine And.intro (fun _ => ?_) (fun h2 => ?_)
  · refine And.intro (fun _ => ?_) (fun h => by cases h)
    refine And.intro rfl (Exists.intro _ (Exists.intro _ (Exists.intro _ (And.intro (awake_spec H []) ?_))))
    exact Exists.intro _ (And.intro rfl (And.intro rfl (And.intro (More.refl H) rfl)))
  have hlm : ms.length ≤ 50 := by
    have h2 := dec_false (p := ((ms.map (AV.int .u64)).length : Int) > 50) h2
    rw [List.length_map] at h2
    omega
  refine And.intro (fun _ => ?_) (fun h3 => ?_)
  · refine And.intro rfl (Exists.intro _ (Exists.intro _ (Exists.intro _ (And.intro (awake_spec H []) ?_))))
    exact Exists.intro _ (And.intro rfl (And.intro rfl (And.intro (More.refl H) rfl)))
  have hlu : more.length ≤ 50 := by
    have h3 := dec_false (p := ((more.map (AV.int .u64)).length : Int) > 50) h3
    rw [List.length_map] at h3
    omega
  obtain ⟨y, E1, hyy, hE1⟩ := drop_spec hy hz' (by omega) (by omega) bot H
  refine And.intro rfl (Exists.intro _ (Exists.intro _ (Exists.intro _ (And.intro hE1 ?_))))
  rcases hyy with ⟨ho, rfl⟩ | ⟨ho, xd, rfl, hxd⟩
  · refine And.intro (fun _ => ?_) (fun h => by cases h)
    refine And.intro (fun _ => ?_) (fun h => by cases h)
    refine And.intro rfl (Exists.intro _ (Exists.intro _ (Exists.intro _ (And.intro (awake_spec _ []) ?_))))
    exact Exists.intro _ (And.intro rfl (And.intro rfl (And.intro (More.app H E1) rfl)))
  have hal := drop_sub ho hs ms bot
  have hoa : orderP (dropP [] ms bot) = true := of_ord ((ord_of ho).sub hal)
  have hln := hal.length_le
  obtain ⟨y2, E2, hy2, hE2⟩ := drop_spec hxd hz' (by omega) (by omega) bot (H ++ E1)
  obtain ⟨xb, rfl, hxb⟩ := again_R ho hs hy2
  have hzz : IsMarks (.lst 23 ((ms ++ more : List Int).map (AV.int .u64)) []) (ms ++ more) := .inr ⟨[], rfl⟩
  obtain ⟨y3, E3, hy3, hE3⟩ := drop_spec hy hzz (by omega) (by rw [List.length_append]; omega) bot ((H ++ E1) ++ E2)
  rcases hy3 with ⟨ho3, _⟩ | ⟨_, xc, rfl, hxc⟩
  · rw [ho] at ho3; cases ho3
  have hmm : More H (((H ++ E1) ++ E2) ++ E3) := ((More.app H E1).trans (More.app _ E2)).trans (More.app _ E3)
  have hend := again_end H hy hxd hxb hxc (by omega) hal (drop_more ho hs ms more bot) (drop_sub ho hs (ms ++ more) bot) (((H ++ E1) ++ E2) ++ E3) hmm
  rcases hxd with ⟨rfl, hd0⟩ | ⟨sd, rfl⟩
  · have _ := trivial
    refine And.intro (fun h => by cases h) (fun _ => ?_)
    refine And.intro rfl (Exists.intro _ (Exists.intro _ (Exists.intro _ (And.intro hE2 ?_))))
    rcases hxb with ⟨rfl, hb0⟩ | ⟨sb, rfl⟩
    · refine Exists.intro _ (And.intro rfl ?_)
      refine And.intro rfl (And.intro rfl (And.intro (?_ : (0 + (ms.map (AV.int .u64)).length) * 8 ≤ 140737488355328) (And.intro (?_ : 0 + (ms.map (AV.int .u64)).length ≤ 140737488355328) (And.intro (Nat.le_of_ble_eq_true rfl) (And.intro rfl (Exists.intro (ms.map (AV.int .u64)) (And.intro rfl ?_)))))))
      · rw [List.length_map]; omega
      · rw [List.length_map]; omega
      refine Exists.intro _ (And.intro rfl ?_)
      refine And.intro rfl (And.intro rfl (And.intro (?_ : (((ms : List Int).map (AV.int .u64)).length + (more.map (AV.int .u64)).length) * 8 ≤ 140737488355328) (And.intro (?_ : ((ms : List Int).map (AV.int .u64)).length + (more.map (AV.int .u64)).length ≤ 140737488355328) (And.intro (Nat.le_of_ble_eq_true rfl) (And.intro rfl (Exists.intro ((ms ++ more : List Int).map (AV.int .u64)) (And.intro (by rw [List.map_append]) ?_)))))))
      · rw [List.length_map, List.length_map]; omega
      · rw [List.length_map, List.length_map]; omega
      refine And.intro rfl (Exists.intro _ (Exists.intro _ (Exists.intro _ (And.intro hE3 ?_))))
      rcases hxc with ⟨rfl, hc0⟩ | ⟨sc, rfl⟩
      · exact And.intro (And.left hend) (And.right hend)
      · exact And.intro (And.left hend) (And.right hend)
    · refine Exists.intro _ (And.intro rfl ?_)
      refine And.intro rfl (And.intro rfl (And.intro (?_ : (0 + (ms.map (AV.int .u64)).length) * 8 ≤ 140737488355328) (And.intro (?_ : 0 + (ms.map (AV.int .u64)).length ≤ 140737488355328) (And.intro (Nat.le_of_ble_eq_true rfl) (And.intro rfl (Exists.intro (ms.map (AV.int .u64)) (And.intro rfl ?_)))))))
      · rw [List.length_map]; omega
      · rw [List.length_map]; omega
      refine Exists.intro _ (And.intro rfl ?_)
      refine And.intro rfl (And.intro rfl (And.intro (?_ : (((ms : List Int).map (AV.int .u64)).length + (more.map (AV.int .u64)).length) * 8 ≤ 140737488355328) (And.intro (?_ : ((ms : List Int).map (AV.int .u64)).length + (more.map (AV.int .u64)).length ≤ 140737488355328) (And.intro (Nat.le_of_ble_eq_true rfl) (And.intro rfl (Exists.intro ((ms ++ more : List Int).map (AV.int .u64)) (And.intro (by rw [List.map_append]) ?_)))))))
      · rw [List.length_map, List.length_map]; omega
      · rw [List.length_map, List.length_map]; omega
      refine And.intro rfl (Exists.intro _ (Exists.intro _ (Exists.intro _ (And.intro hE3 ?_))))
      rcases hxc with ⟨rfl, hc0⟩ | ⟨sc, rfl⟩
      · exact And.intro (And.left hend) (And.right hend)
      · exact And.intro (And.left hend) (And.right hend)
  · have _ := trivial
    refine And.intro (fun h => by cases h) (fun _ => ?_)
    refine And.intro rfl (Exists.intro _ (Exists.intro _ (Exists.intro _ (And.intro hE2 ?_))))
    rcases hxb with ⟨rfl, hb0⟩ | ⟨sb, rfl⟩
    · refine Exists.intro _ (And.intro rfl ?_)
      refine And.intro rfl (And.intro rfl (And.intro (?_ : (0 + (ms.map (AV.int .u64)).length) * 8 ≤ 140737488355328) (And.intro (?_ : 0 + (ms.map (AV.int .u64)).length ≤ 140737488355328) (And.intro (Nat.le_of_ble_eq_true rfl) (And.intro rfl (Exists.intro (ms.map (AV.int .u64)) (And.intro rfl ?_)))))))
      · rw [List.length_map]; omega
      · rw [List.length_map]; omega
      refine Exists.intro _ (And.intro rfl ?_)
      refine And.intro rfl (And.intro rfl (And.intro (?_ : (((ms : List Int).map (AV.int .u64)).length + (more.map (AV.int .u64)).length) * 8 ≤ 140737488355328) (And.intro (?_ : ((ms : List Int).map (AV.int .u64)).length + (more.map (AV.int .u64)).length ≤ 140737488355328) (And.intro (Nat.le_of_ble_eq_true rfl) (And.intro rfl (Exists.intro ((ms ++ more : List Int).map (AV.int .u64)) (And.intro (by rw [List.map_append]) ?_)))))))
      · rw [List.length_map, List.length_map]; omega
      · rw [List.length_map, List.length_map]; omega
      refine And.intro rfl (Exists.intro _ (Exists.intro _ (Exists.intro _ (And.intro hE3 ?_))))
      rcases hxc with ⟨rfl, hc0⟩ | ⟨sc, rfl⟩
      · exact And.intro (And.left hend) (And.right hend)
      · exact And.intro (And.left hend) (And.right hend)
    · refine Exists.intro _ (And.intro rfl ?_)
      refine And.intro rfl (And.intro rfl (And.intro (?_ : (0 + (ms.map (AV.int .u64)).length) * 8 ≤ 140737488355328) (And.intro (?_ : 0 + (ms.map (AV.int .u64)).length ≤ 140737488355328) (And.intro (Nat.le_of_ble_eq_true rfl) (And.intro rfl (Exists.intro (ms.map (AV.int .u64)) (And.intro rfl ?_)))))))
      · rw [List.length_map]; omega
      · rw [List.length_map]; omega
      refine Exists.intro _ (And.intro rfl ?_)
      refine And.intro rfl (And.intro rfl (And.intro (?_ : (((ms : List Int).map (AV.int .u64)).length + (more.map (AV.int .u64)).length) * 8 ≤ 140737488355328) (And.intro (?_ : ((ms : List Int).map (AV.int .u64)).length + (more.map (AV.int .u64)).length ≤ 140737488355328) (And.intro (Nat.le_of_ble_eq_true rfl) (And.intro rfl (Exists.intro ((ms ++ more : List Int).map (AV.int .u64)) (And.intro (by rw [List.map_append]) ?_)))))))
      · rw [List.length_map, List.length_map]; omega
      · rw [List.length_map, List.length_map]; omega
      refine And.intro rfl (Exists.intro _ (Exists.intro _ (Exists.intro _ (And.intro hE3 ?_))))
      rcases hxc with ⟨rfl, hc0⟩ | ⟨sc, rfl⟩
      · exact And.intro (And.left hend) (And.right hend)
      · exact And.intro (And.left hend) (And.right hend)
theorem again_lst_nil_nil (l : List Row) (sp : List AV) (hs : SeqOk l) (bot : Bool) : GivesE Try.prog K0 5 [.lst 39 (l.map Row.enc) sp, .nils, .nils, .bool bot] (fun y => y = .bool true) := by
  refine givesE_by Try.func5 rfl rfl rfl fun H => ?_
  have hy : IsRows (.lst 39 (l.map Row.enc) sp) l := .inr ⟨_, rfl⟩
  have hz' : IsMarks (.nils) [] := .inl ⟨rfl, rfl⟩
  refine And.intro (fun _ => ?_) (fun h1 => ?_)
  · refine And.intro (fun _ => ?_) (fun h => by cases h)
    refine And.intro (fun _ => ?_) (fun h => by cases h)
    refine And.intro rfl (Exists.intro _ (Exists.intro _ (Exists.intro _ (And.intro (awake_spec H []) ?_))))
    exact Exists.intro _ (And.intro rfl (And.intro rfl (And.intro (More.refl H) rfl)))
  have h1 := dec_false (p := ((l.map Row.enc).length : Int) > 200) h1
  rw [List.length_map] at h1
  have hlt : l.length ≤ 200 := by omega
  refine And.intro (fun h => by cases h) (fun _ => ?_)
  have hlm : ([] : List Int).length ≤ 50 := Nat.zero_le _
  refine And.intro (fun h => by cases h) (fun _ => ?_)
  have hlu : ([] : List Int).length ≤ 50 := Nat.zero_le _
  obtain ⟨y, E1, hyy, hE1⟩ := drop_spec hy hz' (by omega) (by omega) bot H
  refine And.intro rfl (Exists.intro _ (Exists.intro _ (Exists.intro _ (And.intro hE1 ?_))))
  rcases hyy with ⟨ho, rfl⟩ | ⟨ho, xd, rfl, hxd⟩
  · refine And.intro (fun _ => ?_) (fun h => by cases h)
    refine And.intro (fun _ => ?_) (fun h => by cases h)
    refine And.intro rfl (Exists.intro _ (Exists.intro _ (Exists.intro _ (And.intro (awake_spec _ []) ?_))))
    exact Exists.intro _ (And.intro rfl (And.intro rfl (And.intro (More.app H E1) rfl)))
  have hal := drop_sub ho hs [] bot
  have hoa : orderP (dropP l [] bot) = true := of_ord ((ord_of ho).sub hal)
  have hln := hal.length_le
  obtain ⟨y2, E2, hy2, hE2⟩ := drop_spec hxd hz' (by omega) (by omega) bot (H ++ E1)
  obtain ⟨xb, rfl, hxb⟩ := again_R ho hs hy2
  have hzz : IsMarks (.lst 23 (([] ++ [] : List Int).map (AV.int .u64)) []) ([] ++ []) := .inr ⟨[], rfl⟩
  obtain ⟨y3, E3, hy3, hE3⟩ := drop_spec hy hzz (by omega) (by rw [List.length_append]; omega) bot ((H ++ E1) ++ E2)
  rcases hy3 with ⟨ho3, _⟩ | ⟨_, xc, rfl, hxc⟩
  · rw [ho] at ho3; cases ho3
  have hmm : More H (((H ++ E1) ++ E2) ++ E3) := ((More.app H E1).trans (More.app _ E2)).trans (More.app _ E3)
  have hend := again_end H hy hxd hxb hxc (by omega) hal (drop_more ho hs [] [] bot) (drop_sub ho hs ([] ++ []) bot) (((H ++ E1) ++ E2) ++ E3) hmm
  rcases hxd with ⟨rfl, hd0⟩ | ⟨sd, rfl⟩
  · have _ := trivial
    refine And.intro (fun h => by cases h) (fun _ => ?_)
    refine And.intro rfl (Exists.intro _ (Exists.intro _ (Exists.intro _ (And.intro hE2 ?_))))
    rcases hxb with ⟨rfl, hb0⟩ | ⟨sb, rfl⟩
    · refine Exists.intro _ (And.intro rfl ?_)
      refine And.intro rfl (And.intro rfl (And.intro (Nat.le_of_ble_eq_true rfl) (And.intro (Nat.le_of_ble_eq_true rfl) (And.intro (Nat.le_of_ble_eq_true rfl) (And.intro rfl (Exists.intro (([] : List Int).map (AV.int .u64)) (And.intro rfl ?_)))))))
      refine Exists.intro _ (And.intro rfl ?_)
      refine And.intro rfl (And.intro rfl (And.intro (?_ : ((([] : List Int).map (AV.int .u64)).length + 0) * 8 ≤ 140737488355328) (And.intro (?_ : (([] : List Int).map (AV.int .u64)).length + 0 ≤ 140737488355328) (And.intro (Nat.le_of_ble_eq_true rfl) (And.intro rfl (Exists.intro (([] ++ [] : List Int).map (AV.int .u64)) (And.intro (by rw [List.map_append]; rfl) ?_)))))))
      · rw [List.length_map]; omega
      · rw [List.length_map]; omega
      refine And.intro rfl (Exists.intro _ (Exists.intro _ (Exists.intro _ (And.intro hE3 ?_))))
      rcases hxc with ⟨rfl, hc0⟩ | ⟨sc, rfl⟩
      · exact And.intro (And.left hend) (And.right hend)
      · exact And.intro (And.left hend) (And.right hend)
    · refine Exists.intro _ (And.intro rfl ?_)
      refine And.intro rfl (And.intro rfl (And.intro (Nat.le_of_ble_eq_true rfl) (And.intro (Nat.le_of_ble_eq_true rfl) (And.intro (Nat.le_of_ble_eq_true rfl) (And.intro rfl (Exists.intro (([] : List Int).map (AV.int .u64)) (And.intro rfl ?_)))))))
      refine Exists.intro _ (And.intro rfl ?_)
      refine And.intro rfl (And.intro rfl (And.intro (?_ : ((([] : List Int).map (AV.int .u64)).length + 0) * 8 ≤ 140737488355328) (And.intro (?_ : (([] : List Int).map (AV.int .u64)).length + 0 ≤ 140737488355328) (And.intro (Nat.le_of_ble_eq_true rfl) (And.intro rfl (Exists.intro (([] ++ [] : List Int).map (AV.int .u64)) (And.intro (by rw [List.map_append]; rfl) ?_)))))))
      · rw [List.length_map]; omega
      · rw [List.length_map]; omega
      refine And.intro rfl (Exists.intro _ (Exists.intro _ (Exists.intro _ (And.intro hE3 ?_))))
      rcases hxc with ⟨rfl, hc0⟩ | ⟨sc, rfl⟩
      · exact And.intro (And.left hend) (And.right hend)
      · exact And.intro (And.left hend) (And.right hend)
  · have _ := trivial
    refine And.intro (fun h => by cases h) (fun _ => ?_)
    refine And.intro rfl (Exists.intro _ (Exists.intro _ (Exists.intro _ (And.intro hE2 ?_))))
    rcases hxb with ⟨rfl, hb0⟩ | ⟨sb, rfl⟩
    · refine Exists.intro _ (And.intro rfl ?_)
      refine And.intro rfl (And.intro rfl (And.intro (Nat.le_of_ble_eq_true rfl) (And.intro (Nat.le_of_ble_eq_true rfl) (And.intro (Nat.le_of_ble_eq_true rfl) (And.intro rfl (Exists.intro (([] : List Int).map (AV.int .u64)) (And.intro rfl ?_)))))))
      refine Exists.intro _ (And.intro rfl ?_)
      refine And.intro rfl (And.intro rfl (And.intro (?_ : ((([] : List Int).map (AV.int .u64)).length + 0) * 8 ≤ 140737488355328) (And.intro (?_ : (([] : List Int).map (AV.int .u64)).length + 0 ≤ 140737488355328) (And.intro (Nat.le_of_ble_eq_true rfl) (And.intro rfl (Exists.intro (([] ++ [] : List Int).map (AV.int .u64)) (And.intro (by rw [List.map_append]; rfl) ?_)))))))
      · rw [List.length_map]; omega
      · rw [List.length_map]; omega
      refine And.intro rfl (Exists.intro _ (Exists.intro _ (Exists.intro _ (And.intro hE3 ?_))))
      rcases hxc with ⟨rfl, hc0⟩ | ⟨sc, rfl⟩
      · exact And.intro (And.left hend) (And.right hend)
      · exact And.intro (And.left hend) (And.right hend)
    · refine Exists.intro _ (And.intro rfl ?_)
      refine And.intro rfl (And.intro rfl (And.intro (Nat.le_of_ble_eq_true rfl) (And.intro (Nat.le_of_ble_eq_true rfl) (And.intro (Nat.le_of_ble_eq_true rfl) (And.intro rfl (Exists.intro (([] : List Int).map (AV.int .u64)) (And.intro rfl ?_)))))))
      refine Exists.intro _ (And.intro rfl ?_)
      refine And.intro rfl (And.intro rfl (And.intro (?_ : ((([] : List Int).map (AV.int .u64)).length + 0) * 8 ≤ 140737488355328) (And.intro (?_ : (([] : List Int).map (AV.int .u64)).length + 0 ≤ 140737488355328) (And.intro (Nat.le_of_ble_eq_true rfl) (And.intro rfl (Exists.intro (([] ++ [] : List Int).map (AV.int .u64)) (And.intro (by rw [List.map_append]; rfl) ?_)))))))
      · rw [List.length_map]; omega
      · rw [List.length_map]; omega
      refine And.intro rfl (Exists.intro _ (Exists.intro _ (Exists.intro _ (And.intro hE3 ?_))))
      rcases hxc with ⟨rfl, hc0⟩ | ⟨sc, rfl⟩
      · exact And.intro (And.left hend) (And.right hend)
      · exact And.intro (And.left hend) (And.right hend)
theorem again_lst_nil_lst (l : List Row) (sp : List AV) (more : List Int) (su : List AV) (hs : SeqOk l) (bot : Bool) : GivesE Try.prog K0 5 [.lst 39 (l.map Row.enc) sp, .nils, .lst 23 (more.map (AV.int .u64)) su, .bool bot] (fun y => y = .bool true) := by
  refine givesE_by Try.func5 rfl rfl rfl fun H => ?_
  have hy : IsRows (.lst 39 (l.map Row.enc) sp) l := .inr ⟨_, rfl⟩
  have hz' : IsMarks (.nils) [] := .inl ⟨rfl, rfl⟩
  refine And.intro (fun _ => ?_) (fun h1 => ?_)
  · refine And.intro (fun _ => ?_) (fun h => by cases h)
    refine And.intro (fun _ => ?_) (fun h => by cases h)
    refine And.intro rfl (Exists.intro _ (Exists.intro _ (Exists.intro _ (And.intro (awake_spec H []) ?_))))
    exact Exists.intro _ (And.intro rfl (And.intro rfl (And.intro (More.refl H) rfl)))
  have h1 := dec_false (p := ((l.map Row.enc).length : Int) > 200) h1
  rw [List.length_map] at h1
  have hlt : l.length ≤ 200 := by omega
  refine And.intro (fun h => by cases h) (fun _ => ?_)
  have hlm : ([] : List Int).length ≤ 50 := Nat.zero_le _
  refine And.intro (fun _ => ?_) (fun h3 => ?_)
  · refine And.intro rfl (Exists.intro _ (Exists.intro _ (Exists.intro _ (And.intro (awake_spec H []) ?_))))
    exact Exists.intro _ (And.intro rfl (And.intro rfl (And.intro (More.refl H) rfl)))
  have hlu : more.length ≤ 50 := by
    have h3 := dec_false (p := ((more.map (AV.int .u64)).length : Int) > 50) h3
    rw [List.length_map] at h3
    omega
  obtain ⟨y, E1, hyy, hE1⟩ := drop_spec hy hz' (by omega) (by omega) bot H
  refine And.intro rfl (Exists.intro _ (Exists.intro _ (Exists.intro _ (And.intro hE1 ?_))))
  rcases hyy with ⟨ho, rfl⟩ | ⟨ho, xd, rfl, hxd⟩
  · refine And.intro (fun _ => ?_) (fun h => by cases h)
    refine And.intro (fun _ => ?_) (fun h => by cases h)
    refine And.intro rfl (Exists.intro _ (Exists.intro _ (Exists.intro _ (And.intro (awake_spec _ []) ?_))))
    exact Exists.intro _ (And.intro rfl (And.intro rfl (And.intro (More.app H E1) rfl)))
  have hal := drop_sub ho hs [] bot
  have hoa : orderP (dropP l [] bot) = true := of_ord ((ord_of ho).sub hal)
  have hln := hal.length_le
  obtain ⟨y2, E2, hy2, hE2⟩ := drop_spec hxd hz' (by omega) (by omega) bot (H ++ E1)
  obtain ⟨xb, rfl, hxb⟩ := again_R ho hs hy2
  have hzz : IsMarks (.lst 23 (([] ++ more : List Int).map (AV.int .u64)) []) ([] ++ more) := .inr ⟨[], rfl⟩
  obtain ⟨y3, E3, hy3, hE3⟩ := drop_spec hy hzz (by omega) (by rw [List.length_append]; omega) bot ((H ++ E1) ++ E2)
  rcases hy3 with ⟨ho3, _⟩ | ⟨_, xc, rfl, hxc⟩
  · rw [ho] at ho3; cases ho3
  have hmm : More H (((H ++ E1) ++ E2) ++ E3) := ((More.app H E1).trans (More.app _ E2)).trans (More.app _ E3)
  have hend := again_end H hy hxd hxb hxc (by omega) hal (drop_more ho hs [] more bot) (drop_sub ho hs ([] ++ more) bot) (((H ++ E1) ++ E2) ++ E3) hmm
  rcases hxd with ⟨rfl, hd0⟩ | ⟨sd, rfl⟩
  · have _ := trivial
    refine And.intro (fun h => by cases h) (fun _ => ?_)
    refine And.intro rfl (Exists.intro _ (Exists.intro _ (Exists.intro _ (And.intro hE2 ?_))))
    rcases hxb with ⟨rfl, hb0⟩ | ⟨sb, rfl⟩
    · refine Exists.intro _ (And.intro rfl ?_)
      refine And.intro rfl (And.intro rfl (And.intro (Nat.le_of_ble_eq_true rfl) (And.intro (Nat.le_of_ble_eq_true rfl) (And.intro (Nat.le_of_ble_eq_true rfl) (And.intro rfl (Exists.intro (([] : List Int).map (AV.int .u64)) (And.intro rfl ?_)))))))
      refine Exists.intro _ (And.intro rfl ?_)
      refine And.intro rfl (And.intro rfl (And.intro (?_ : ((([] : List Int).map (AV.int .u64)).length + (more.map (AV.int .u64)).length) * 8 ≤ 140737488355328) (And.intro (?_ : (([] : List Int).map (AV.int .u64)).length + (more.map (AV.int .u64)).length ≤ 140737488355328) (And.intro (Nat.le_of_ble_eq_true rfl) (And.intro rfl (Exists.intro (([] ++ more : List Int).map (AV.int .u64)) (And.intro (by rw [List.map_append]) ?_)))))))
      · rw [List.length_map, List.length_map]; omega
      · rw [List.length_map, List.length_map]; omega
      refine And.intro rfl (Exists.intro _ (Exists.intro _ (Exists.intro _ (And.intro hE3 ?_))))
      rcases hxc with ⟨rfl, hc0⟩ | ⟨sc, rfl⟩
      · exact And.intro (And.left hend) (And.right hend)
      · exact And.intro (And.left hend) (And.right hend)
    · refine Exists.intro _ (And.intro rfl ?_)
      refine And.intro rfl (And.intro rfl (And.intro (Nat.le_of_ble_eq_true rfl) (And.intro (Nat.le_of_ble_eq_true rfl) (And.intro (Nat.le_of_ble_eq_true rfl) (And.intro rfl (Exists.intro (([] : List Int).map (AV.int .u64)) (And.intro rfl ?_)))))))
      refine Exists.intro _ (And.intro rfl ?_)
      refine And.intro rfl (And.intro rfl (And.intro (?_ : ((([] : List Int).map (AV.int .u64)).length + (more.map (AV.int .u64)).length) * 8 ≤ 140737488355328) (And.intro (?_ : (([] : List Int).map (AV.int .u64)).length + (more.map (AV.int .u64)).length ≤ 140737488355328) (And.intro (Nat.le_of_ble_eq_true rfl) (And.intro rfl (Exists.intro (([] ++ more : List Int).map (AV.int .u64)) (And.intro (by rw [List.map_append]) ?_)))))))
      · rw [List.length_map, List.length_map]; omega
      · rw [List.length_map, List.length_map]; omega
      refine And.intro rfl (Exists.intro _ (Exists.intro _ (Exists.intro _ (And.intro hE3 ?_))))
      rcases hxc with ⟨rfl, hc0⟩ | ⟨sc, rfl⟩
      · exact And.intro (And.left hend) (And.right hend)
      · exact And.intro (And.left hend) (And.right hend)
  · have _ := trivial
    refine And.intro (fun h => by cases h) (fun _ => ?_)
    refine And.intro rfl (Exists.intro _ (Exists.intro _ (Exists.intro _ (And.intro hE2 ?_))))
    rcases hxb with ⟨rfl, hb0⟩ | ⟨sb, rfl⟩
    · refine Exists.intro _ (And.intro rfl ?_)
      refine And.intro rfl (And.intro rfl (And.intro (Nat.le_of_ble_eq_true rfl) (And.intro (Nat.le_of_ble_eq_true rfl) (And.intro (Nat.le_of_ble_eq_true rfl) (And.intro rfl (Exists.intro (([] : List Int).map (AV.int .u64)) (And.intro rfl ?_)))))))
      refine Exists.intro _ (And.intro rfl ?_)
      refine And.intro rfl (And.intro rfl (And.intro (?_ : ((([] : List Int).map (AV.int .u64)).length + (more.map (AV.int .u64)).length) * 8 ≤ 140737488355328) (And.intro (?_ : (([] : List Int).map (AV.int .u64)).length + (more.map (AV.int .u64)).length ≤ 140737488355328) (And.intro (Nat.le_of_ble_eq_true rfl) (And.intro rfl (Exists.intro (([] ++ more : List Int).map (AV.int .u64)) (And.intro (by rw [List.map_append]) ?_)))))))
      · rw [List.length_map, List.length_map]; omega
      · rw [List.length_map, List.length_map]; omega
      refine And.intro rfl (Exists.intro _ (Exists.intro _ (Exists.intro _ (And.intro hE3 ?_))))
      rcases hxc with ⟨rfl, hc0⟩ | ⟨sc, rfl⟩
      · exact And.intro (And.left hend) (And.right hend)
      · exact And.intro (And.left hend) (And.right hend)
    · refine Exists.intro _ (And.intro rfl ?_)
      refine And.intro rfl (And.intro rfl (And.intro (Nat.le_of_ble_eq_true rfl) (And.intro (Nat.le_of_ble_eq_true rfl) (And.intro (Nat.le_of_ble_eq_true rfl) (And.intro rfl (Exists.intro (([] : List Int).map (AV.int .u64)) (And.intro rfl ?_)))))))
      refine Exists.intro _ (And.intro rfl ?_)
      refine And.intro rfl (And.intro rfl (And.intro (?_ : ((([] : List Int).map (AV.int .u64)).length + (more.map (AV.int .u64)).length) * 8 ≤ 140737488355328) (And.intro (?_ : (([] : List Int).map (AV.int .u64)).length + (more.map (AV.int .u64)).length ≤ 140737488355328) (And.intro (Nat.le_of_ble_eq_true rfl) (And.intro rfl (Exists.intro (([] ++ more : List Int).map (AV.int .u64)) (And.intro (by rw [List.map_append]) ?_)))))))
      · rw [List.length_map, List.length_map]; omega
      · rw [List.length_map, List.length_map]; omega
      refine And.intro rfl (Exists.intro _ (Exists.intro _ (Exists.intro _ (And.intro hE3 ?_))))
      rcases hxc with ⟨rfl, hc0⟩ | ⟨sc, rfl⟩
      · exact And.intro (And.left hend) (And.right hend)
      · exact And.intro (And.left hend) (And.right hend)
theorem again_lst_lst_nil (l : List Row) (sp : List AV) (ms : List Int) (sm : List AV) (hs : SeqOk l) (bot : Bool) : GivesE Try.prog K0 5 [.lst 39 (l.map Row.enc) sp, .lst 23 (ms.map (AV.int .u64)) sm, .nils, .bool bot] (fun y => y = .bool true) := by
  refine givesE_by Try.func5 rfl rfl rfl fun H => ?_
  have hy : IsRows (.lst 39 (l.map Row.enc) sp) l := .inr ⟨_, rfl⟩
  have hz' : IsMarks (.lst 23 (ms.map (AV.int .u64)) sm) ms := .inr ⟨_, rfl⟩
  refine And.intro (fun _ => ?_) (fun h1 => ?_)
  · refine And.intro (fun _ => ?_) (fun h => by cases h)
    refine And.intro (fun _ => ?_) (fun h => by cases h)
    refine And.intro rfl (Exists.intro _ (Exists.intro _ (Exists.intro _ (And.intro (awake_spec H []) ?_))))
    exact Exists.intro _ (And.intro rfl (And.intro rfl (And.intro (More.refl H) rfl)))
  have h1 := dec_false (p := ((l.map Row.enc).length : Int) > 200) h1
  rw [List.length_map] at h1
  have hlt : l.length ≤ 200 := by omega
  refine And.intro (fun _ => ?_) (fun h2 => ?_)
  · refine And.intro (fun _ => ?_) (fun h => by cases h)
    refine And.intro rfl (Exists.intro _ (Exists.intro _ (Exists.intro _ (And.intro (awake_spec H []) ?_))))
    exact Exists.intro _ (And.intro rfl (And.intro rfl (And.intro (More.refl H) rfl)))
  have hlm : ms.length ≤ 50 := by
    have h2 := dec_false (p := ((ms.map (AV.int .u64)).length : Int) > 50) h2
    rw [List.length_map] at h2
    omega
  refine And.intro (fun h => by cases h) (fun _ => ?_)
  have hlu : ([] : List Int).length ≤ 50 := Nat.zero_le _
  obtain ⟨y, E1, hyy, hE1⟩ := drop_spec hy hz' (by omega) (by omega) bot H
  refine And.intro rfl (Exists.intro _ (Exists.intro _ (Exists.intro _ (And.intro hE1 ?_))))
  rcases hyy with ⟨ho, rfl⟩ | ⟨ho, xd, rfl, hxd⟩
  · refine And.intro (fun _ => ?_) (fun h => by cases h)
    refine And.intro (fun _ => ?_) (fun h => by cases h)
    refine And.intro rfl (Exists.intro _ (Exists.intro _ (Exists.intro _ (And.intro (awake_spec _ []) ?_))))
    exact Exists.intro _ (And.intro rfl (And.intro rfl (And.intro (More.app H E1) rfl)))
  have hal := drop_sub ho hs ms bot
  have hoa : orderP (dropP l ms bot) = true := of_ord ((ord_of ho).sub hal)
  have hln := hal.length_le
  obtain ⟨y2, E2, hy2, hE2⟩ := drop_spec hxd hz' (by omega) (by omega) bot (H ++ E1)
  obtain ⟨xb, rfl, hxb⟩ := again_R ho hs hy2
  have hzz : IsMarks (.lst 23 ((ms ++ [] : List Int).map (AV.int .u64)) []) (ms ++ []) := .inr ⟨[], rfl⟩
  obtain ⟨y3, E3, hy3, hE3⟩ := drop_spec hy hzz (by omega) (by rw [List.length_append]; omega) bot ((H ++ E1) ++ E2)
  rcases hy3 with ⟨ho3, _⟩ | ⟨_, xc, rfl, hxc⟩
  · rw [ho] at ho3; cases ho3
  have hmm : More H (((H ++ E1) ++ E2) ++ E3) := ((More.app H E1).trans (More.app _ E2)).trans (More.app _ E3)
  have hend := again_end H hy hxd hxb hxc (by omega) hal (drop_more ho hs ms [] bot) (drop_sub ho hs (ms ++ []) bot) (((H ++ E1) ++ E2) ++ E3) hmm
  rcases hxd with ⟨rfl, hd0⟩ | ⟨sd, rfl⟩
  · have _ := trivial
    refine And.intro (fun h => by cases h) (fun _ => ?_)
    refine And.intro rfl (Exists.intro _ (Exists.intro _ (Exists.intro _ (And.intro hE2 ?_))))
    rcases hxb with ⟨rfl, hb0⟩ | ⟨sb, rfl⟩
    · refine Exists.intro _ (And.intro rfl ?_)
      refine And.intro rfl (And.intro rfl (And.intro (?_ : (0 + (ms.map (AV.int .u64)).length) * 8 ≤ 140737488355328) (And.intro (?_ : 0 + (ms.map (AV.int .u64)).length ≤ 140737488355328) (And.intro (Nat.le_of_ble_eq_true rfl) (And.intro rfl (Exists.intro (ms.map (AV.int .u64)) (And.intro rfl ?_)))))))
      · rw [List.length_map]; omega
      · rw [List.length_map]; omega
      refine Exists.intro _ (And.intro rfl ?_)
      refine And.intro rfl (And.intro rfl (And.intro (?_ : (((ms : List Int).map (AV.int .u64)).length + 0) * 8 ≤ 140737488355328) (And.intro (?_ : ((ms : List Int).map (AV.int .u64)).length + 0 ≤ 140737488355328) (And.intro (Nat.le_of_ble_eq_true rfl) (And.intro rfl (Exists.intro ((ms ++ [] : List Int).map (AV.int .u64)) (And.intro (by rw [List.map_append]; rfl) ?_)))))))
      · rw [List.length_map]; omega
      · rw [List.length_map]; omega
      refine And.intro rfl (Exists.intro _ (Exists.intro _ (Exists.intro _ (And.intro hE3 ?_))))
      rcases hxc with ⟨rfl, hc0⟩ | ⟨sc, rfl⟩
      · exact And.intro (And.left hend) (And.right hend)
      · exact And.intro (And.left hend) (And.right hend)
    · refine Exists.intro _ (And.intro rfl ?_)
      refine And.intro rfl (And.intro rfl (And.intro (?_ : (0 + (ms.map (AV.int .u64)).length) * 8 ≤ 140737488355328) (And.intro (?_ : 0 + (ms.map (AV.int .u64)).length ≤ 140737488355328) (And.intro (Nat.le_of_ble_eq_true rfl) (And.intro rfl (Exists.intro (ms.map (AV.int .u64)) (And.intro rfl ?_)))))))
      · rw [List.length_map]; omega
      · rw [List.length_map]; omega
      refine Exists.intro _ (And.intro rfl ?_)
      refine And.intro rfl (And.intro rfl (And.intro (?_ : (((ms : List Int).map (AV.int .u64)).length + 0) * 8 ≤ 140737488355328) (And.intro (?_ : ((ms : List Int).map (AV.int .u64)).length + 0 ≤ 140737488355328) (And.intro (Nat.le_of_ble_eq_true rfl) (And.intro rfl (Exists.intro ((ms ++ [] : List Int).map (AV.int .u64)) (And.intro (by rw [List.map_append]; rfl) ?_)))))))
      · rw [List.length_map]; omega
      · rw [List.length_map]; omega
      refine And.intro rfl (Exists.intro _ (Exists.intro _ (Exists.intro _ (And.intro hE3 ?_))))
      rcases hxc with ⟨rfl, hc0⟩ | ⟨sc, rfl⟩
      · exact And.intro (And.left hend) (And.right hend)
      · exact And.intro (And.left hend) (And.right hend)
  · have _ := trivial
    refine And.intro (fun h => by cases h) (fun _ => ?_)
    refine And.intro rfl (Exists.intro _ (Exists.intro _ (Exists.intro _ (And.intro hE2 ?_))))
    rcases hxb with ⟨rfl, hb0⟩ | ⟨sb, rfl⟩
    · refine Exists.intro _ (And.intro rfl ?_)
      refine And.intro rfl (And.intro rfl (And.intro (?_ : (0 + (ms.map (AV.int .u64)).length) * 8 ≤ 140737488355328) (And.intro (?_ : 0 + (ms.map (AV.int .u64)).length ≤ 140737488355328) (And.intro (Nat.le_of_ble_eq_true rfl) (And.intro rfl (Exists.intro (ms.map (AV.int .u64)) (And.intro rfl ?_)))))))
      · rw [List.length_map]; omega
      · rw [List.length_map]; omega
      refine Exists.intro _ (And.intro rfl ?_)
      refine And.intro rfl (And.intro rfl (And.intro (?_ : (((ms : List Int).map (AV.int .u64)).length + 0) * 8 ≤ 140737488355328) (And.intro (?_ : ((ms : List Int).map (AV.int .u64)).length + 0 ≤ 140737488355328) (And.intro (Nat.le_of_ble_eq_true rfl) (And.intro rfl (Exists.intro ((ms ++ [] : List Int).map (AV.int .u64)) (And.intro (by rw [List.map_append]; rfl) ?_)))))))
      · rw [List.length_map]; omega
      · rw [List.length_map]; omega
      refine And.intro rfl (Exists.intro _ (Exists.intro _ (Exists.intro _ (And.intro hE3 ?_))))
      rcases hxc with ⟨rfl, hc0⟩ | ⟨sc, rfl⟩
      · exact And.intro (And.left hend) (And.right hend)
      · exact And.intro (And.left hend) (And.right hend)
    · refine Exists.intro _ (And.intro rfl ?_)
      refine And.intro rfl (And.intro rfl (And.intro (?_ : (0 + (ms.map (AV.int .u64)).length) * 8 ≤ 140737488355328) (And.intro (?_ : 0 + (ms.map (AV.int .u64)).length ≤ 140737488355328) (And.intro (Nat.le_of_ble_eq_true rfl) (And.intro rfl (Exists.intro (ms.map (AV.int .u64)) (And.intro rfl ?_)))))))
      · rw [List.length_map]; omega
      · rw [List.length_map]; omega
      refine Exists.intro _ (And.intro rfl ?_)
      refine And.intro rfl (And.intro rfl (And.intro (?_ : (((ms : List Int).map (AV.int .u64)).length + 0) * 8 ≤ 140737488355328) (And.intro (?_ : ((ms : List Int).map (AV.int .u64)).length + 0 ≤ 140737488355328) (And.intro (Nat.le_of_ble_eq_true rfl) (And.intro rfl (Exists.intro ((ms ++ [] : List Int).map (AV.int .u64)) (And.intro (by rw [List.map_append]; rfl) ?_)))))))
      · rw [List.length_map]; omega
      · rw [List.length_map]; omega
      refine And.intro rfl (Exists.intro _ (Exists.intro _ (Exists.intro _ (And.intro hE3 ?_))))
      rcases hxc with ⟨rfl, hc0⟩ | ⟨sc, rfl⟩
      · exact And.intro (And.left hend) (And.right hend)
      · exact And.intro (And.left hend) (And.right hend)
theorem again_lst_lst_lst (l : List Row) (sp : List AV) (ms : List Int) (sm : List AV) (more : List Int) (su : List AV) (hs : SeqOk l) (bot : Bool) : GivesE Try.prog K0 5 [.lst 39 (l.map Row.enc) sp, .lst 23 (ms.map (AV.int .u64)) sm, .lst 23 (more.map (AV.int .u64)) su, .bool bot] (fun y => y = .bool true) := by
  refine givesE_by Try.func5 rfl rfl rfl fun H => ?_
  have hy : IsRows (.lst 39 (l.map Row.enc) sp) l := .inr ⟨_, rfl⟩
  have hz' : IsMarks (.lst 23 (ms.map (AV.int .u64)) sm) ms := .inr ⟨_, rfl⟩
  refine And.intro (fun _ => ?_) (fun h1 => ?_)
  · refine And.intro (fun _ => ?_) (fun h => by cases h)
    refine And.intro (fun _ => ?_) (fun h => by cases h)
    refine And.intro rfl (Exists.intro _ (Exists.intro _ (Exists.intro _ (And.intro (awake_spec H []) ?_))))
    exact Exists.intro _ (And.intro rfl (And.intro rfl (And.intro (More.refl H) rfl)))
  have h1 := dec_false (p := ((l.map Row.enc).length : Int) > 200) h1
  rw [List.length_map] at h1
  have hlt : l.length ≤ 200 := by omega
  refine And.intro (fun _ => ?_) (fun h2 => ?_)
  · refine And.intro (fun _ => ?_) (fun h => by cases h)
    refine And.intro rfl (Exists.intro _ (Exists.intro _ (Exists.intro _ (And.intro (awake_spec H []) ?_))))
    exact Exists.intro _ (And.intro rfl (And.intro rfl (And.intro (More.refl H) rfl)))
  have hlm : ms.length ≤ 50 := by
    have h2 := dec_false (p := ((ms.map (AV.int .u64)).length : Int) > 50) h2
    rw [List.length_map] at h2
    omega
  refine And.intro (fun _ => ?_) (fun h3 => ?_)
  · refine And.intro rfl (Exists.intro _ (Exists.intro _ (Exists.intro _ (And.intro (awake_spec H []) ?_))))
    exact Exists.intro _ (And.intro rfl (And.intro rfl (And.intro (More.refl H) rfl)))
  have hlu : more.length ≤ 50 := by
    have h3 := dec_false (p := ((more.map (AV.int .u64)).length : Int) > 50) h3
    rw [List.length_map] at h3
    omega
  obtain ⟨y, E1, hyy, hE1⟩ := drop_spec hy hz' (by omega) (by omega) bot H
  refine And.intro rfl (Exists.intro _ (Exists.intro _ (Exists.intro _ (And.intro hE1 ?_))))
  rcases hyy with ⟨ho, rfl⟩ | ⟨ho, xd, rfl, hxd⟩
  · refine And.intro (fun _ => ?_) (fun h => by cases h)
    refine And.intro (fun _ => ?_) (fun h => by cases h)
    refine And.intro rfl (Exists.intro _ (Exists.intro _ (Exists.intro _ (And.intro (awake_spec _ []) ?_))))
    exact Exists.intro _ (And.intro rfl (And.intro rfl (And.intro (More.app H E1) rfl)))
  have hal := drop_sub ho hs ms bot
  have hoa : orderP (dropP l ms bot) = true := of_ord ((ord_of ho).sub hal)
  have hln := hal.length_le
  obtain ⟨y2, E2, hy2, hE2⟩ := drop_spec hxd hz' (by omega) (by omega) bot (H ++ E1)
  obtain ⟨xb, rfl, hxb⟩ := again_R ho hs hy2
  have hzz : IsMarks (.lst 23 ((ms ++ more : List Int).map (AV.int .u64)) []) (ms ++ more) := .inr ⟨[], rfl⟩
  obtain ⟨y3, E3, hy3, hE3⟩ := drop_spec hy hzz (by omega) (by rw [List.length_append]; omega) bot ((H ++ E1) ++ E2)
  rcases hy3 with ⟨ho3, _⟩ | ⟨_, xc, rfl, hxc⟩
  · rw [ho] at ho3; cases ho3
  have hmm : More H (((H ++ E1) ++ E2) ++ E3) := ((More.app H E1).trans (More.app _ E2)).trans (More.app _ E3)
  have hend := again_end H hy hxd hxb hxc (by omega) hal (drop_more ho hs ms more bot) (drop_sub ho hs (ms ++ more) bot) (((H ++ E1) ++ E2) ++ E3) hmm
  rcases hxd with ⟨rfl, hd0⟩ | ⟨sd, rfl⟩
  · have _ := trivial
    refine And.intro (fun h => by cases h) (fun _ => ?_)
    refine And.intro rfl (Exists.intro _ (Exists.intro _ (Exists.intro _ (And.intro hE2 ?_))))
    rcases hxb with ⟨rfl, hb0⟩ | ⟨sb, rfl⟩
    · refine Exists.intro _ (And.intro rfl ?_)
      refine And.intro rfl (And.intro rfl (And.intro (?_ : (0 + (ms.map (AV.int .u64)).length) * 8 ≤ 140737488355328) (And.intro (?_ : 0 + (ms.map (AV.int .u64)).length ≤ 140737488355328) (And.intro (Nat.le_of_ble_eq_true rfl) (And.intro rfl (Exists.intro (ms.map (AV.int .u64)) (And.intro rfl ?_)))))))
      · rw [List.length_map]; omega
      · rw [List.length_map]; omega
      refine Exists.intro _ (And.intro rfl ?_)
      refine And.intro rfl (And.intro rfl (And.intro (?_ : (((ms : List Int).map (AV.int .u64)).length + (more.map (AV.int .u64)).length) * 8 ≤ 140737488355328) (And.intro (?_ : ((ms : List Int).map (AV.int .u64)).length + (more.map (AV.int .u64)).length ≤ 140737488355328) (And.intro (Nat.le_of_ble_eq_true rfl) (And.intro rfl (Exists.intro ((ms ++ more : List Int).map (AV.int .u64)) (And.intro (by rw [List.map_append]) ?_)))))))
      · rw [List.length_map, List.length_map]; omega
      · rw [List.length_map, List.length_map]; omega
      refine And.intro rfl (Exists.intro _ (Exists.intro _ (Exists.intro _ (And.intro hE3 ?_))))
      rcases hxc with ⟨rfl, hc0⟩ | ⟨sc, rfl⟩
      · exact And.intro (And.left hend) (And.right hend)
      · exact And.intro (And.left hend) (And.right hend)
    · refine Exists.intro _ (And.intro rfl ?_)
      refine And.intro rfl (And.intro rfl (And.intro (?_ : (0 + (ms.map (AV.int .u64)).length) * 8 ≤ 140737488355328) (And.intro (?_ : 0 + (ms.map (AV.int .u64)).length ≤ 140737488355328) (And.intro (Nat.le_of_ble_eq_true rfl) (And.intro rfl (Exists.intro (ms.map (AV.int .u64)) (And.intro rfl ?_)))))))
      · rw [List.length_map]; omega
      · rw [List.length_map]; omega
      refine Exists.intro _ (And.intro rfl ?_)
      refine And.intro rfl (And.intro rfl (And.intro (?_ : (((ms : List Int).map (AV.int .u64)).length + (more.map (AV.int .u64)).length) * 8 ≤ 140737488355328) (And.intro (?_ : ((ms : List Int).map (AV.int .u64)).length + (more.map (AV.int .u64)).length ≤ 140737488355328) (And.intro (Nat.le_of_ble_eq_true rfl) (And.intro rfl (Exists.intro ((ms ++ more : List Int).map (AV.int .u64)) (And.intro (by rw [List.map_append]) ?_)))))))
      · rw [List.length_map, List.length_map]; omega
      · rw [List.length_map, List.length_map]; omega
      refine And.intro rfl (Exists.intro _ (Exists.intro _ (Exists.intro _ (And.intro hE3 ?_))))
      rcases hxc with ⟨rfl, hc0⟩ | ⟨sc, rfl⟩
      · exact And.intro (And.left hend) (And.right hend)
      · exact And.intro (And.left hend) (And.right hend)
  · have _ := trivial
    refine And.intro (fun h => by cases h) (fun _ => ?_)
    refine And.intro rfl (Exists.intro _ (Exists.intro _ (Exists.intro _ (And.intro hE2 ?_))))
    rcases hxb with ⟨rfl, hb0⟩ | ⟨sb, rfl⟩
    · refine Exists.intro _ (And.intro rfl ?_)
      refine And.intro rfl (And.intro rfl (And.intro (?_ : (0 + (ms.map (AV.int .u64)).length) * 8 ≤ 140737488355328) (And.intro (?_ : 0 + (ms.map (AV.int .u64)).length ≤ 140737488355328) (And.intro (Nat.le_of_ble_eq_true rfl) (And.intro rfl (Exists.intro (ms.map (AV.int .u64)) (And.intro rfl ?_)))))))
      · rw [List.length_map]; omega
      · rw [List.length_map]; omega
      refine Exists.intro _ (And.intro rfl ?_)
      refine And.intro rfl (And.intro rfl (And.intro (?_ : (((ms : List Int).map (AV.int .u64)).length + (more.map (AV.int .u64)).length) * 8 ≤ 140737488355328) (And.intro (?_ : ((ms : List Int).map (AV.int .u64)).length + (more.map (AV.int .u64)).length ≤ 140737488355328) (And.intro (Nat.le_of_ble_eq_true rfl) (And.intro rfl (Exists.intro ((ms ++ more : List Int).map (AV.int .u64)) (And.intro (by rw [List.map_append]) ?_)))))))
      · rw [List.length_map, List.length_map]; omega
      · rw [List.length_map, List.length_map]; omega
      refine And.intro rfl (Exists.intro _ (Exists.intro _ (Exists.intro _ (And.intro hE3 ?_))))
      rcases hxc with ⟨rfl, hc0⟩ | ⟨sc, rfl⟩
      · exact And.intro (And.left hend) (And.right hend)
      · exact And.intro (And.left hend) (And.right hend)
    · refine Exists.intro _ (And.intro rfl ?_)
      refine And.intro rfl (And.intro rfl (And.intro (?_ : (0 + (ms.map (AV.int .u64)).length) * 8 ≤ 140737488355328) (And.intro (?_ : 0 + (ms.map (AV.int .u64)).length ≤ 140737488355328) (And.intro (Nat.le_of_ble_eq_true rfl) (And.intro rfl (Exists.intro (ms.map (AV.int .u64)) (And.intro rfl ?_)))))))
      · rw [List.length_map]; omega
      · rw [List.length_map]; omega
      refine Exists.intro _ (And.intro rfl ?_)
      refine And.intro rfl (And.intro rfl (And.intro (?_ : (((ms : List Int).map (AV.int .u64)).length + (more.map (AV.int .u64)).length) * 8 ≤ 140737488355328) (And.intro (?_ : ((ms : List Int).map (AV.int .u64)).length + (more.map (AV.int .u64)).length ≤ 140737488355328) (And.intro (Nat.le_of_ble_eq_true rfl) (And.intro rfl (Exists.intro ((ms ++ more : List Int).map (AV.int .u64)) (And.intro (by rw [List.map_append]) ?_)))))))
      · rw [List.length_map, List.length_map]; omega
      · rw [List.length_map, List.length_map]; omega
      refine And.intro rfl (Exists.intro _ (Exists.intro _ (Exists.intro _ (And.intro hE3 ?_))))
      rcases hxc with ⟨rfl, hc0⟩ | ⟨sc, rfl⟩
      · exact And.intro (And.left hend) (And.right hend)
      · exact And.intro (And.left hend) (And.right hend)
theorem MergeAgain_spec {x z u : AV} {l : List Row} {ms more : List Int} (hx : IsRows x l) (hz : IsMarks z ms) (hu : IsMarks u more) (hs : SeqOk l) (bot : Bool) : GivesE Try.prog K0 5 [x, z, u, .bool bot] (fun y => y = .bool true) := by
  rcases hx with ⟨rfl, rfl⟩ | ⟨sp, rfl⟩
  · rcases hz with ⟨rfl, rfl⟩ | ⟨sm, rfl⟩
    · rcases hu with ⟨rfl, rfl⟩ | ⟨su, rfl⟩
      · exact again_nil_nil_nil hs bot
      · exact again_nil_nil_lst more su hs bot
    · rcases hu with ⟨rfl, rfl⟩ | ⟨su, rfl⟩
      · exact again_nil_lst_nil ms sm hs bot
      · exact again_nil_lst_lst ms sm more su hs bot
  · rcases hz with ⟨rfl, rfl⟩ | ⟨sm, rfl⟩
    · rcases hu with ⟨rfl, rfl⟩ | ⟨su, rfl⟩
      · exact again_lst_nil_nil l sp hs bot
      · exact again_lst_nil_lst l sp more su hs bot
    · rcases hu with ⟨rfl, rfl⟩ | ⟨su, rfl⟩
      · exact again_lst_lst_nil l sp ms sm hs bot
      · exact again_lst_lst_lst l sp ms sm more su hs bot
end Go.Proofs.Ytnajopkaepjncaa
