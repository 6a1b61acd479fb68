import Derived.Laws.BitsAllLaws
namespace Go.Proofs.YtokjkllfkjiaiaaDoor.Bs

/-- a 64-bit word (a name for the bound, so that its numeral is not seen) -/
def U64 (s : Nat) : Prop := s < 18446744073709551616
/-- the word of the set of one int, or of the empty set -/
def oneN (i : Int) : Nat := if 0 ≤ i ∧ i ≤ 63 then 2 ^ i.toNat else 0
/-- is i in s? -/
def hasB (s : Nat) (i : Int) : Bool := decide (0 ≤ i ∧ i ≤ 63) && s.testBit i.toNat
def withN (s : Nat) (i : Int) : Nat := s ||| oneN i
def minusN (s t : Nat) : Nat := s &&& (18446744073709551615 - t)
def withoutN (s : Nat) (i : Int) : Nat := minusN s (oneN i)
def ofN (l : List Int) : Nat := l.foldl withN 0
/-- what Range holds after the ints below k -/
def rangeTo (f t : Int) : Nat → Nat
  | 0 => 0
  | k + 1 => if f ≤ (k : Int) ∧ (k : Int) < t then withN (rangeTo f t k) k else rangeTo f t k
def unionTo (s t : Nat) : Nat → Nat
  | 0 => s
  | k + 1 => if hasB t k then withN (unionTo s t k) k else unionTo s t k
def minusTo (s t : Nat) : Nat → Nat
  | 0 => s
  | k + 1 => if hasB t k then withoutN (minusTo s t k) k else minusTo s t k
/-- the elements below k, ascending -/
def listTo (s : Nat) : Nat → List Int
  | 0 => []
  | k + 1 => if hasB s k then listTo s k ++ [(k : Int)] else listTo s k
def listN (s : Nat) : List Int := listTo s 64

theorem oneN_lt (i : Int) : oneN i < 18446744073709551616 := by
  unfold oneN
  split
  · rename_i h
    have : i.toNat < 64 := by omega
    exact Nat.lt_of_lt_of_le (Nat.pow_lt_pow_right (by omega) this) (by decide)
  · decide
theorem testBit_oneN (i : Int) (j : Nat) : (oneN i).testBit j = decide (i = (j : Int) ∧ j ≤ 63) := by
  unfold oneN
  split
  · rw [Nat.testBit_two_pow]
    apply decide_eq_decide.2; omega
  · rw [Nat.zero_testBit, eq_comm, decide_eq_false_iff_not]; omega
theorem hasB_nat (s k : Nat) : hasB s k = (decide (k ≤ 63) && s.testBit k) := by
  unfold hasB
  rw [Int.toNat_natCast]
  congr 1
  apply decide_eq_decide.2; omega
theorem testBit_lt {s : Nat} (h : s < 18446744073709551616) {j : Nat} (hj : 64 ≤ j) : s.testBit j = false :=
  Nat.testBit_lt_two_pow (Nat.lt_of_lt_of_le (show s < 2 ^ 64 from h) (Nat.pow_le_pow_right (by omega) hj))
theorem lt_of_bits {s : Nat} (h : ∀ j, 64 ≤ j → s.testBit j = false) : s < 18446744073709551616 := by
  show s < 2 ^ 64
  exact Nat.lt_pow_two_of_testBit s h
theorem bits_ext {s t : Nat} (hs : s < 18446744073709551616) (ht : t < 18446744073709551616) (h : ∀ j, j ≤ 63 → s.testBit j = t.testBit j) : s = t := by
  apply Nat.eq_of_testBit_eq
  intro j
  by_cases hj : j ≤ 63
  · exact h j hj
  · rw [testBit_lt hs (by omega), testBit_lt ht (by omega)]
theorem testBit_minusN (s t j : Nat) (ht : t < 18446744073709551616) : (minusN s t).testBit j = (s.testBit j && (decide (j ≤ 63) && !t.testBit j)) := by
  unfold minusN
  have e : 18446744073709551615 - t = 2 ^ 64 - (t + 1) := by omega
  rw [Nat.testBit_and, e, Nat.testBit_two_pow_sub_succ (show t < 2 ^ 64 from ht)]
  congr 2
  apply decide_eq_decide.2; omega
theorem minusN_lt (s t : Nat) (hs : s < 18446744073709551616) : minusN s t < 18446744073709551616 := by
  unfold minusN
  exact Nat.lt_of_le_of_lt Nat.and_le_left hs
theorem withN_lt (s : Nat) (i : Int) (hs : s < 18446744073709551616) : withN s i < 18446744073709551616 :=
  Nat.or_lt_two_pow (n := 64) hs (oneN_lt i)
theorem withoutN_lt (s : Nat) (i : Int) (hs : s < 18446744073709551616) : withoutN s i < 18446744073709551616 := minusN_lt s _ hs
theorem testBit_withN (s : Nat) (i : Int) (j : Nat) : (withN s i).testBit j = (s.testBit j || decide (i = (j : Int) ∧ j ≤ 63)) := by
  unfold withN
  rw [Nat.testBit_or, testBit_oneN]
theorem testBit_withoutN (s : Nat) (i : Int) (j : Nat) : (withoutN s i).testBit j = (s.testBit j && (decide (j ≤ 63) && !decide (i = (j : Int) ∧ j ≤ 63))) := by
  unfold withoutN
  rw [testBit_minusN _ _ _ (oneN_lt i), testBit_oneN]

/-- the program's test -/
theorem has_prog (s : Nat) (i : Int) : ((s &&& oneN i) != 0) = hasB s i := by
  unfold hasB oneN
  split
  · rename_i h
    rw [Go.nat_bit, Nat.testBit_eq_decide_div_mod_eq]
    have hp : 0 < 2 ^ i.toNat := Nat.pow_pos (by omega)
    rcases Nat.mod_two_eq_zero_or_one (s / 2 ^ i.toNat) with e | e
    · simp [e]
    · simp [e, h]
  · rename_i h
    simp [h]
/-- the reference's test -/
theorem has_ref (s : Nat) (i : Int) (h0 : 0 ≤ i) (h1 : i < 64) : (s / 2 ^ i.toNat % 2 == 1) = hasB s i := by
  unfold hasB
  rw [Nat.testBit_eq_decide_div_mod_eq]
  have : (0 ≤ i ∧ i ≤ 63) := by omega
  simp [this]
  rfl
theorem add_or (s i : Nat) (h : s.testBit i = false) : s + 2 ^ i = s ||| 2 ^ i := by
  apply Nat.eq_of_testBit_eq
  intro j
  have hx : (BitVec.ofNat (s + i + j + 2) s) &&& (BitVec.ofNat (s + i + j + 2) (2 ^ i)) = 0#(s + i + j + 2) := by
    apply BitVec.eq_of_getLsbD_eq
    intro k hk
    simp only [BitVec.getLsbD_and, BitVec.getLsbD_ofNat, Nat.testBit_two_pow]
    by_cases e : i = k
    · subst e; simp [h]
    · simp [e]
  have h2 := congrArg (fun b : BitVec (s + i + j + 2) => b.getLsbD j) (BitVec.add_eq_or_of_and_eq_zero _ _ hx)
  simp only [← BitVec.ofNat_add, BitVec.getLsbD_or, BitVec.getLsbD_ofNat] at h2
  rw [Nat.testBit_or]
  have hj : j < s + i + j + 2 := by omega
  simpa [hj] using h2
theorem with_ref (s : Nat) (i : Int) : withN s i = if i < 0 ∨ 63 < i ∨ hasB s i then s else s + 2 ^ i.toNat := by
  unfold withN oneN hasB
  by_cases h : 0 ≤ i ∧ i ≤ 63
  · rw [if_pos h]
    by_cases hb : s.testBit i.toNat = true
    · rw [if_pos (by simp [h, hb])]
      apply Nat.eq_of_testBit_eq
      intro j
      rw [Nat.testBit_or, Nat.testBit_two_pow]
      by_cases e : i.toNat = j
      · subst e; simp [hb]
      · simp [e]
    · rw [if_neg (by intro hc; simp [hb] at hc; omega), add_or _ _ (by simpa using hb)]
  · rw [if_neg h, if_pos (by omega)]; simp
theorem without_ref (s : Nat) (i : Int) (hs : s < 18446744073709551616) : withoutN s i = if hasB s i then s - 2 ^ i.toNat else s := by
  by_cases h : hasB s i = true
  · rw [if_pos h]
    simp only [hasB, Bool.and_eq_true, decide_eq_true_eq] at h
    have h1 : withoutN s i + 2 ^ i.toNat = s := by
      rw [add_or]
      · apply Nat.eq_of_testBit_eq
        intro j
        rw [Nat.testBit_or, testBit_withoutN, Nat.testBit_two_pow]
        by_cases hj : j ≤ 63
        · by_cases e : i.toNat = j
          · subst e; simp [h.2]
          · have : ¬ i = (j : Int) := by omega
            simp [e, this, hj]
        · have : ¬ i.toNat = j := by omega
          rw [testBit_lt hs (by omega)]; simp [this]
      · rw [testBit_withoutN]
        have e : i = ((i.toNat : Nat) : Int) := by omega
        have : i.toNat ≤ 63 := by omega
        simp [← e, this]
    omega
  · rw [if_neg h]
    simp only [hasB, Bool.and_eq_true, decide_eq_true_eq, not_and, Bool.not_eq_true] at h
    apply bits_ext (withoutN_lt _ _ hs) hs
    intro j hj
    rw [testBit_withoutN]
    by_cases e : i = (j : Int)
    · subst e
      have := h (by omega)
      rw [Int.toNat_natCast] at this
      simp [this]
    · simp [hj, e]
theorem has_bool (s : Nat) (i : Int) : hasB s i = true ↔ 0 ≤ i ∧ i ≤ 63 ∧ s.testBit i.toNat = true := by
  simp [hasB, and_assoc]

/-! Range -/
theorem rangeTo_lt (f t : Int) : ∀ k, rangeTo f t k < 18446744073709551616
  | 0 => by unfold rangeTo; omega
  | k + 1 => by
    unfold rangeTo
    split
    · exact withN_lt _ _ (rangeTo_lt f t k)
    · exact rangeTo_lt f t k
theorem rangeTo_low (f t : Int) : ∀ k : Nat, (k : Int) ≤ f → rangeTo f t k = 0
  | 0, _ => rfl
  | k + 1, h => by
    unfold rangeTo
    rw [if_neg (by omega), rangeTo_low f t k (by omega)]
theorem rangeTo_high (f t : Int) (m : Nat) : ∀ k : Nat, m ≤ k → (∀ j : Nat, m ≤ j → j < k → ¬ (f ≤ (j : Int) ∧ (j : Int) < t)) → rangeTo f t k = rangeTo f t m
  | 0, h, _ => by rw [show m = 0 by omega]
  | k + 1, h, hn => by
    by_cases e : m = k + 1
    · rw [e]
    · rw [rangeTo, if_neg (hn k (by omega) (by omega))]
      exact rangeTo_high f t m k (by omega) (fun j h1 h2 => hn j h1 (by omega))
/-- where the program's loop ends -/
theorem rangeTo_end (f t : Int) (i : Nat) (h : t ≤ (i : Int) ∨ 64 ≤ i) (hi : i ≤ 64 ∨ (i : Int) ≤ f) : rangeTo f t i = rangeTo f t 64 := by
  by_cases h64 : i ≤ 64
  · rcases h with h | h
    · exact (rangeTo_high f t i 64 h64 (fun j h1 _ => by omega)).symm
    · rw [show i = 64 by omega]
  · have hf : (i : Int) ≤ f := by omega
    rw [rangeTo_low f t i hf, rangeTo_low f t 64 (by omega)]
theorem testBit_rangeTo (f t : Int) (j : Nat) : ∀ k, k ≤ 64 → (rangeTo f t k).testBit j = decide (j < k ∧ f ≤ (j : Int) ∧ (j : Int) < t)
  | 0, _ => by simp [rangeTo]
  | k + 1, hk => by
    have ih := testBit_rangeTo f t j k (by omega)
    unfold rangeTo
    split
    · rw [testBit_withN, ih, ← Bool.decide_or]
      apply decide_eq_decide.2; omega
    · rw [ih]
      apply decide_eq_decide.2; omega

/-! Union, Minus, Intersect -/
theorem unionTo_lt (s t : Nat) (hs : s < 18446744073709551616) : ∀ k, unionTo s t k < 18446744073709551616
  | 0 => hs
  | k + 1 => by
    unfold unionTo
    split
    · exact withN_lt _ _ (unionTo_lt s t hs k)
    · exact unionTo_lt s t hs k
theorem testBit_unionTo (s t j : Nat) : ∀ k, k ≤ 64 → (unionTo s t k).testBit j = (s.testBit j || (decide (j < k) && t.testBit j))
  | 0, _ => by simp [unionTo]
  | k + 1, hk => by
    have ih := testBit_unionTo s t j k (by omega)
    unfold unionTo
    rw [hasB_nat]
    have hk63 : k ≤ 63 := by omega
    by_cases e : j = k
    · subst e
      cases hb : t.testBit j <;> simp [hb, ih, testBit_withN, hk63]
    · have e1 : (j < k + 1) = (j < k) := by apply propext; omega
      have e2 : ¬ ((k : Int) = (j : Int)) := by omega
      cases hb : t.testBit k <;> simp [ih, testBit_withN, hk63, e1, e2]
theorem unionTo_eq (s t : Nat) (hs : s < 18446744073709551616) (ht : t < 18446744073709551616) : unionTo s t 64 = s ||| t := by
  apply bits_ext (unionTo_lt s t hs 64) (Nat.or_lt_two_pow (n := 64) hs ht)
  intro j hj
  rw [testBit_unionTo s t j 64 (by omega), Nat.testBit_or]
  simp [show j < 64 by omega]
theorem minusTo_lt (s t : Nat) (hs : s < 18446744073709551616) : ∀ k, minusTo s t k < 18446744073709551616
  | 0 => hs
  | k + 1 => by
    unfold minusTo
    split
    · exact withoutN_lt _ _ (minusTo_lt s t hs k)
    · exact minusTo_lt s t hs k
theorem testBit_minusTo (s t j : Nat) (hs : s < 18446744073709551616) : ∀ k, k ≤ 64 → (minusTo s t k).testBit j = (s.testBit j && !(decide (j < k) && t.testBit j))
  | 0, _ => by simp [minusTo]
  | k + 1, hk => by
    have ih := testBit_minusTo s t j hs k (by omega)
    unfold minusTo
    rw [hasB_nat]
    have hk63 : k ≤ 63 := by omega
    by_cases e : j = k
    · subst e
      cases hb : t.testBit j <;> simp [hb, ih, testBit_withoutN, hk63]
    · have e1 : (j < k + 1) = (j < k) := by apply propext; omega
      have e2 : ¬ ((k : Int) = (j : Int)) := by omega
      by_cases hj : j ≤ 63
      · cases hb : t.testBit k <;> simp [ih, testBit_withoutN, hk63, e1, e2, hj]
      · have := testBit_lt hs (show 64 ≤ j by omega)
        cases hb : t.testBit k <;> simp [ih, testBit_withoutN, hk63, e1, e2, this]
theorem minusTo_eq (s t : Nat) (hs : s < 18446744073709551616) (ht : t < 18446744073709551616) : minusTo s t 64 = minusN s t := by
  apply bits_ext (minusTo_lt s t hs 64) (minusN_lt s t hs)
  intro j hj
  rw [testBit_minusTo s t j hs 64 (by omega), testBit_minusN _ _ _ ht]
  simp [show j < 64 by omega, hj]
theorem inter_eq (s t : Nat) (hs : s < 18446744073709551616) (ht : t < 18446744073709551616) : minusN s (minusN s t) = s &&& t := by
  apply bits_ext (minusN_lt s _ hs) (Nat.lt_of_le_of_lt Nat.and_le_left hs)
  intro j hj
  rw [testBit_minusN _ _ _ (minusN_lt s t hs), testBit_minusN _ _ _ ht, Nat.testBit_and]
  simp only [hj, decide_true, Bool.true_and]
  cases s.testBit j <;> cases t.testBit j <;> rfl
theorem parts_eq (s t : Nat) (hs : s < 18446744073709551616) (ht : t < 18446744073709551616) : minusN s t ||| (s &&& t) = s := by
  apply bits_ext (Nat.or_lt_two_pow (n := 64) (minusN_lt s _ hs) (Nat.lt_of_le_of_lt Nat.and_le_left hs)) hs
  intro j hj
  rw [Nat.testBit_or, testBit_minusN _ _ _ ht, Nat.testBit_and]
  simp only [hj, decide_true, Bool.true_and]
  cases s.testBit j <;> cases t.testBit j <;> rfl

/-! the list -/
theorem listTo_len (s : Nat) : ∀ k, (listTo s k).length ≤ k
  | 0 => by simp [listTo]
  | k + 1 => by
    have := listTo_len s k
    unfold listTo
    split <;> simp <;> omega
theorem mem_listTo (s : Nat) (x : Int) : ∀ k, x ∈ listTo s k ↔ (0 ≤ x ∧ x < k ∧ hasB s x = true)
  | 0 => by simp [listTo]; omega
  | k + 1 => by
    have ih := mem_listTo s x k
    unfold listTo
    split
    · rename_i h
      simp only [List.mem_append, ih, List.mem_singleton]
      constructor
      · rintro (⟨a, b, c⟩ | rfl)
        · exact ⟨a, by omega, c⟩
        · exact ⟨by omega, by omega, h⟩
      · rintro ⟨a, b, c⟩
        by_cases e : x = k
        · exact .inr e
        · exact .inl ⟨a, by omega, c⟩
    · rename_i h
      rw [ih]
      constructor
      · rintro ⟨a, b, c⟩; exact ⟨a, by omega, c⟩
      · rintro ⟨a, b, c⟩
        refine ⟨a, ?_, c⟩
        by_cases e : x = k
        · rw [e] at c; exact absurd c h
        · omega
theorem ofN_snoc (l : List Int) (x : Int) : ofN (l ++ [x]) = withN (ofN l) x := by simp [ofN, List.foldl_append]
theorem ofN_lt (l : List Int) : ofN l < 18446744073709551616 := by
  unfold ofN
  suffices h : ∀ s, s < 18446744073709551616 → l.foldl withN s < 18446744073709551616 from h 0 (by decide)
  induction l with
  | nil => intro s hs; exact hs
  | cons x l ih => intro s hs; exact ih _ (withN_lt s x hs)
theorem testBit_ofN_listTo (s j : Nat) : ∀ k, k ≤ 64 → (ofN (listTo s k)).testBit j = (decide (j < k) && s.testBit j)
  | 0, _ => by simp [listTo, ofN]
  | k + 1, hk => by
    have ih := testBit_ofN_listTo s j k (by omega)
    unfold listTo
    rw [hasB_nat]
    have hk63 : k ≤ 63 := by omega
    by_cases e : j = k
    · subst e
      cases hb : s.testBit j <;> simp [hb, ih, ofN_snoc, testBit_withN, hk63]
    · have e1 : (j < k + 1) = (j < k) := by apply propext; omega
      have e2 : ¬ ((k : Int) = (j : Int)) := by omega
      cases hb : s.testBit k <;> simp [ih, ofN_snoc, testBit_withN, hk63, e1, e2]
theorem ofN_list (s : Nat) (hs : s < 18446744073709551616) : ofN (listN s) = s := by
  apply bits_ext (ofN_lt _) hs
  intro j hj
  unfold listN
  rw [testBit_ofN_listTo s j 64 (by omega)]
  simp [show j < 64 by omega]

/-! the number of elements -/
def cnt (s : Nat) : Nat := (listN s).length
def cntTo (s k : Nat) : Nat := (listTo s k).length
theorem cntTo_succ (s k : Nat) (hk : k ≤ 63) : cntTo s (k + 1) = cntTo s k + if s.testBit k then 1 else 0 := by
  unfold cntTo
  rw [listTo, hasB_nat]
  cases s.testBit k <;> simp [hk]
theorem cntTo_zero (s : Nat) : cntTo s 0 = 0 := rfl
theorem cntTo_union (s t : Nat) : ∀ k, k ≤ 64 → cntTo s k + cntTo t k = cntTo (s ||| t) k + cntTo (s &&& t) k
  | 0, _ => rfl
  | k + 1, hk => by
    have ih := cntTo_union s t k (by omega)
    rw [cntTo_succ _ _ (by omega), cntTo_succ _ _ (by omega), cntTo_succ _ _ (by omega), cntTo_succ _ _ (by omega), Nat.testBit_or, Nat.testBit_and]
    cases s.testBit k <;> cases t.testBit k <;> simp <;> omega
theorem cnt_union (s t : Nat) : cnt s + cnt t = cnt (s ||| t) + cnt (s &&& t) := cntTo_union s t 64 (by omega)
/-- the lowest element is struck by s & (s - 1) -/
theorem low_bit (s : Nat) (h : s ≠ 0) : ∃ m, s.testBit m = true ∧ (∀ j, j < m → s.testBit j = false) ∧ ∀ j, (s &&& (s - 1)).testBit j = (s.testBit j && decide (j ≠ m)) := by
  induction s using Nat.strongRecOn with
  | ind s ih =>
    rcases Nat.mod_two_eq_zero_or_one s with e | e
    · obtain ⟨m, h1, h2, h3⟩ := ih (s / 2) (by omega) (by omega)
      refine ⟨m + 1, by rw [Nat.testBit_succ]; exact h1, ?_, ?_⟩
      · intro j hj
        cases j with
        | zero => simp [Nat.testBit_zero, e]
        | succ j => rw [Nat.testBit_succ]; exact h2 j (by omega)
      · intro j
        cases j with
        | zero => simp [Nat.testBit_zero, e]
        | succ j =>
          have := h3 j
          rw [Nat.testBit_and] at this ⊢
          rw [Nat.testBit_succ, Nat.testBit_succ, show (s - 1) / 2 = s / 2 - 1 by omega, this]
          simp
    · refine ⟨0, by simp [Nat.testBit_zero, e], fun j hj => by omega, ?_⟩
      intro j
      rw [Nat.testBit_and]
      cases j with
      | zero =>
        have : (s - 1) % 2 = 0 := by omega
        simp [Nat.testBit_zero, e, this]
      | succ j => rw [Nat.testBit_succ, Nat.testBit_succ, show (s - 1) / 2 = s / 2 by omega]; simp
theorem cntTo_strike (s u m : Nat) (hm : s.testBit m = true) (hu : ∀ j, u.testBit j = (s.testBit j && decide (j ≠ m))) : ∀ k, k ≤ 64 → cntTo s k = cntTo u k + if m < k then 1 else 0
  | 0, _ => by simp [cntTo_zero]
  | k + 1, hk => by
    have ih := cntTo_strike s u m hm hu k (by omega)
    rw [cntTo_succ _ _ (by omega), cntTo_succ _ _ (by omega), ih, hu k]
    by_cases e : k = m
    · subst e; simp [hm]
    · have : (m < k + 1) = (m < k) := by apply propext; omega
      simp only [this, ne_eq, e, not_false_eq_true, decide_true, Bool.and_true]
      omega
theorem cnt_strike (s : Nat) (h : s ≠ 0) (hs : s < 18446744073709551616) : cnt s = cnt (s &&& (s - 1)) + 1 := by
  obtain ⟨m, h1, _, h3⟩ := low_bit s h
  have hm : m < 64 := by
    by_cases hm : m < 64
    · exact hm
    · rw [testBit_lt hs (by omega)] at h1; cases h1
  have := cntTo_strike s (s &&& (s - 1)) m h1 h3 64 (by omega)
  rw [if_pos hm] at this
  exact this
theorem cnt_le (s : Nat) : cnt s ≤ 64 := listTo_len s 64
theorem cnt_zero : cnt 0 = 0 := by decide
theorem strike_lt (s : Nat) (h : s ≠ 0) : s &&& (s - 1) < s := Nat.lt_of_le_of_lt Nat.and_le_right (by omega)

/-! the run of the bit operations, for words -/
theorem bAnd {s t : Nat} (hs : U64 s) (ht : U64 t) : Go.bits .and .u64 (s : Int) (t : Int) = ((s &&& t : Nat) : Int) := Go.u64_and_nat s t hs ht
theorem bOr {s t : Nat} (hs : U64 s) (ht : U64 t) : Go.bits .or .u64 (s : Int) (t : Int) = ((s ||| t : Nat) : Int) := Go.u64_or_nat s t hs ht
theorem bNot {s t : Nat} (hs : U64 s) (ht : U64 t) : Go.bits .andNot .u64 (s : Int) (t : Int) = ((minusN s t : Nat) : Int) := Go.u64_andNot_nat s t hs ht
theorem uOne (i : Int) : U64 (oneN i) := oneN_lt i
theorem uWith {s : Nat} (i : Int) (h : U64 s) : U64 (withN s i) := withN_lt s i h
theorem uWithout {s : Nat} (i : Int) (h : U64 s) : U64 (withoutN s i) := withoutN_lt s i h
theorem uMinus {s : Nat} (t : Nat) (h : U64 s) : U64 (minusN s t) := minusN_lt s t h
theorem uOr {s t : Nat} (hs : U64 s) (ht : U64 t) : U64 (s ||| t) := Nat.or_lt_two_pow (n := 64) hs ht
theorem uAnd {s : Nat} (t : Nat) (hs : U64 s) : U64 (s &&& t) := Nat.lt_of_le_of_lt Nat.and_le_left hs
theorem one_shl {i : Int} (h0 : 0 ≤ i) (h1 : i ≤ 63) : Go.IntKind.u64.wrap (2 ^ i.toNat) = ((oneN i : Nat) : Int) := by
  have hu := oneN_lt i
  unfold oneN at hu ⊢
  rw [if_pos ⟨h0, h1⟩] at hu ⊢
  rw [Go.IntKind.wrap_u64]
  have e : ((2 ^ i.toNat : Nat) : Int) = (2 : Int) ^ i.toNat := by simp
  rw [← e]
  generalize 2 ^ i.toNat = x at hu
  exact Int.emod_eq_of_lt (by omega) (by omega)
theorem one_out {i : Int} (h : ¬ (0 ≤ i ∧ i ≤ 63)) : oneN i = 0 := by unfold oneN; rw [if_neg h]
theorem has_int (s : Nat) (i : Int) : (((s &&& oneN i : Nat) : Int) != 0) = hasB s i := by
  rw [← has_prog]
  cases h : (s &&& oneN i) with
  | zero => rfl
  | succ n => simp [bne_iff_ne]; omega
/-- the powers of two, by a name -/
def pw (k : Nat) : Nat := 2 ^ k
theorem pw_pos (k : Nat) : 0 < pw k := Nat.pow_pos (by omega)
theorem pw_one : ((pw 0 : Nat) : Int) = 1 := rfl
theorem pw_succ {k : Nat} (h : k < 63) : Go.IntKind.u64.wrap (((pw k : Nat) : Int) * 2) = ((pw (k + 1) : Nat) : Int) := by
  rw [Go.IntKind.wrap_u64]
  have h1 : pw (k + 1) = pw k * 2 := by unfold pw; rw [Nat.pow_succ]
  have h2 : pw (k + 1) < 18446744073709551616 := by
    unfold pw
    exact Nat.lt_of_lt_of_le (Nat.pow_lt_pow_right (show 1 < 2 by omega) (show k + 1 < 64 by omega)) (by decide)
  omega
theorem has_quo (s k : Nat) (hk : k ≤ 63) : (((s : Nat) : Int) / ((pw k : Nat) : Int) % 2 == 1) = hasB s k := by
  rw [← has_ref s k (by omega) (by omega), Int.toNat_natCast]
  unfold pw
  have e : ((s : Nat) : Int) / ((2 ^ k : Nat) : Int) % 2 = ((s / 2 ^ k % 2 : Nat) : Int) := by simp
  rw [e, Bool.eq_iff_iff]
  simp only [beq_iff_eq]
  omega
theorem has_quo' {s k : Nat} (hs : U64 s) (hk : k ≤ 63) : ((Go.IntKind.u64.wrap (((s : Nat) : Int) / ((pw k : Nat) : Int))).tmod 2 == 1) = hasB s k := by
  have e : ((s : Nat) : Int) / ((pw k : Nat) : Int) = ((s / pw k : Nat) : Int) := by simp
  have h : s / pw k ≤ s := Nat.div_le_self _ _
  rw [← has_quo s k hk, e, Go.IntKind.wrap_u64]
  unfold U64 at hs
  generalize s / pw k = q at h
  have e2 : ((q : Nat) : Int) % 18446744073709551616 = ((q : Nat) : Int) := Int.emod_eq_of_lt (by omega) (by omega)
  rw [e2, Int.tmod_eq_emod_of_nonneg (by omega)]
theorem has_out {s : Nat} {i : Int} (h : ¬ (0 ≤ i ∧ i ≤ 63)) : hasB s i = false := by unfold hasB; rw [decide_eq_false h]; rfl
theorem with_out {s : Nat} {i : Int} (h : ¬ (0 ≤ i ∧ i ≤ 63)) : withN s i = s := by unfold withN; rw [one_out h]; simp
theorem with_has {s : Nat} {i : Int} (h : hasB s i = true) : withN s i = s := by rw [with_ref, if_pos (.inr (.inr h))]
theorem with_new {s k : Nat} (hk : k ≤ 63) (hs : U64 s) (h : hasB s k = false) : Go.IntKind.u64.wrap (((s : Nat) : Int) + ((pw k : Nat) : Int)) = ((withN s k : Nat) : Int) := by
  have hu := withN_lt s k hs
  rw [with_ref, if_neg (by simp [h]; omega), Int.toNat_natCast] at hu ⊢
  rw [Go.IntKind.wrap_u64]
  unfold pw
  generalize 2 ^ k = x at hu
  omega
theorem without_not {s : Nat} {i : Int} (hs : U64 s) (h : hasB s i = false) : withoutN s i = s := by rw [without_ref s i hs, if_neg (by simp [h])]
theorem without_had {s k : Nat} (hs : U64 s) (h : hasB s k = true) : Go.IntKind.u64.wrap (((s : Nat) : Int) - ((pw k : Nat) : Int)) = ((withoutN s k : Nat) : Int) := by
  have hl : 2 ^ k ≤ s := by
    rw [has_bool, Int.toNat_natCast] at h
    exact Nat.ge_two_pow_of_testBit h.2.2
  rw [without_ref s k hs, if_pos h, Int.toNat_natCast, Go.IntKind.wrap_u64]
  unfold U64 at hs
  unfold pw
  generalize 2 ^ k = x at hl
  omega
theorem uOf (l : List Int) : U64 (ofN l) := ofN_lt l
theorem uRange (f t : Int) (k : Nat) : U64 (rangeTo f t k) := rangeTo_lt f t k
theorem uUnion {s : Nat} (t : Nat) (h : U64 s) (k : Nat) : U64 (unionTo s t k) := unionTo_lt s t h k
theorem uMinusTo {s : Nat} (t : Nat) (h : U64 s) (k : Nat) : U64 (minusTo s t k) := minusTo_lt s t h k
theorem uZero : U64 0 := by unfold U64; omega
theorem or_zero_one (s : Nat) (i : Int) : s ||| oneN i = withN s i := rfl
theorem wrap_sub_one {s : Nat} (hs : U64 s) (h : s ≠ 0) : Go.IntKind.u64.wrap (((s : Nat) : Int) - 1) = ((s - 1 : Nat) : Int) := by
  rw [Go.IntKind.wrap_u64]; unfold U64 at hs; omega
theorem u_sub_one {s : Nat} (hs : U64 s) : U64 (s - 1) := by unfold U64 at hs ⊢; omega
theorem listTo_prefix (s : Nat) (m : Nat) : ∀ k, m ≤ k → listTo s m <+: listTo s k
  | 0, h => by rw [show m = 0 by omega]; exact List.prefix_refl _
  | k + 1, h => by
    by_cases e : m = k + 1
    · rw [e]; exact List.prefix_refl _
    · have ih := listTo_prefix s m k (by omega)
      rw [listTo]
      split
      · exact ih.trans (List.prefix_append _ _)
      · exact ih
theorem listTo_hit {s m : Nat} (h : hasB s m = true) : listTo s (m + 1) = listTo s m ++ [(m : Int)] := by rw [listTo, if_pos h]
theorem listTo_miss {s m : Nat} (h : hasB s m = false) : listTo s (m + 1) = listTo s m := by rw [listTo, if_neg (by simp [h])]
/-! membership -/
theorem has_bits (s : Nat) (i : Int) (h0 : 0 ≤ i) (h1 : i ≤ 63) : hasB s i = s.testBit i.toNat := by unfold hasB; rw [decide_eq_true (show 0 ≤ i ∧ i ≤ 63 from ⟨h0, h1⟩)]; rfl
theorem has_or (s t : Nat) (i : Int) : hasB (s ||| t) i = (hasB s i || hasB t i) := by
  unfold hasB; rw [Nat.testBit_or]; cases decide (0 ≤ i ∧ i ≤ 63) <;> simp
theorem has_and (s t : Nat) (i : Int) : hasB (s &&& t) i = (hasB s i && hasB t i) := by
  unfold hasB; rw [Nat.testBit_and]; cases decide (0 ≤ i ∧ i ≤ 63) <;> simp
theorem has_minus (s t : Nat) (i : Int) (ht : U64 t) : hasB (minusN s t) i = (hasB s i && !hasB t i) := by
  unfold hasB
  by_cases h : 0 ≤ i ∧ i ≤ 63
  · rw [testBit_minusN _ _ _ ht, decide_eq_true h, decide_eq_true (show i.toNat ≤ 63 by omega)]; simp
  · rw [decide_eq_false h]; simp
theorem has_with (s : Nat) (i : Int) : hasB (withN s i) i = decide (0 ≤ i ∧ i ≤ 63) := by
  unfold hasB
  by_cases h : 0 ≤ i ∧ i ≤ 63
  · rw [testBit_withN, decide_eq_true h, decide_eq_true (show i = ((i.toNat : Nat) : Int) ∧ i.toNat ≤ 63 by omega)]; simp
  · rw [decide_eq_false h]; simp
theorem has_without (s : Nat) (i : Int) : hasB (withoutN s i) i = false := by
  unfold hasB
  by_cases h : 0 ≤ i ∧ i ≤ 63
  · rw [testBit_withoutN, decide_eq_true (show i = ((i.toNat : Nat) : Int) ∧ i.toNat ≤ 63 by omega)]; simp
  · rw [decide_eq_false h]; simp
theorem has_of1 (i : Int) : hasB (ofN [i]) i = decide (0 ≤ i ∧ i ≤ 63) := has_with 0 i
theorem cnt_int (s t : Nat) : ((((cnt s : Nat) : Int) + ((cnt t : Nat) : Int)) == ((cnt (s ||| t) : Nat) : Int) + ((cnt (s &&& t) : Nat) : Int)) = true := by
  have := cnt_union s t
  rw [beq_iff_eq]
  omega
end Go.Proofs.YtokjkllfkjiaiaaDoor.Bs
