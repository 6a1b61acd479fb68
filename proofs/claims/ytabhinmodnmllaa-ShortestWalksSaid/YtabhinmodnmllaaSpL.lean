/-
  The plain law of a heap of labels. Printed by gen/hlaw12.py.
-/
import Derived.Test.YtabhinmodnmllaaSpE
namespace Go.Proofs.Ytabhinmodnmllaa
theorem swpN_take_len {ns : List Node} {m i k : Nat} (hn : ns.length = m + 1) : ((swpN ns i k).take m).length = m := by rw [List.length_take, swpN_len, hn]; omega
theorem sinkN_len (lt : Lab → Lab → Bool) (f : Nat) (ns : List Node) (i : Nat) : (sinkN lt f ns i).length = ns.length := by
  induction f generalizing ns i with
  | zero => rfl
  | succ f ih =>
    rw [sinkN]
    split
    · rfl
    · split
      · rw [ih, swpN_len]
      · rfl
theorem popN_len {lt : Lab → Lab → Bool} {ns : List Node} {m : Nat} (hn : ns.length = m + 1) : (popN lt ns).length = m := by
  unfold popN
  rw [sinkN_len, hn]
  exact swpN_take_len hn
theorem swimN_len (lt : Lab → Lab → Bool) (f : Nat) (ns : List Node) (i : Nat) : (swimN lt f ns i).length = ns.length := by
  induction f generalizing ns i with
  | zero => rfl
  | succ f ih =>
    rw [swimN]
    split
    · rw [ih, swpN_len]
    · rfl
theorem pushN_len (lt : Lab → Lab → Bool) (ns : List Node) (x : Lab) (pu : Int) : (pushN lt ns x pu).length = ns.length + 1 := by
  unfold pushN
  rw [swimN_len, List.length_append]
  rfl

/-- the order is the one of labels (the second argument is there for the proofs' sake alone) -/
def Keyed (lt : Lab → Lab → Bool) (_f : Unit) : Prop := lt = ltL
section
variable {lt : Lab → Lab → Bool} {f : Unit}
theorem bef_iff (hk : Keyed lt f) (a b : Node) : bef lt a b = true ↔ a.p.len < b.p.len ∨ (a.p.len = b.p.len ∧ (a.p.edges < b.p.edges ∨ (a.p.edges = b.p.edges ∧ a.num < b.num))) := by
  rw [show lt = ltL from hk]
  unfold bef ltL
  simp
  omega
theorem bef_not (hk : Keyed lt f) (a b : Node) : bef lt a b = false ↔ b.p.len < a.p.len ∨ (a.p.len = b.p.len ∧ (b.p.edges < a.p.edges ∨ (a.p.edges = b.p.edges ∧ b.num ≤ a.num))) := by
  have := bef_iff hk a b
  cases h : bef lt a b
  · rw [h] at this
    simp at this ⊢
    omega
  · rw [h] at this
    simp at this ⊢
    omega
/-- a comes no later than b -/
def Le (lt : Lab → Lab → Bool) (a b : Node) : Prop := bef lt b a = false
theorem le_iff (hk : Keyed lt f) (a b : Node) : Le lt a b ↔ a.p.len < b.p.len ∨ (b.p.len = a.p.len ∧ (a.p.edges < b.p.edges ∨ (b.p.edges = a.p.edges ∧ a.num ≤ b.num))) := bef_not hk b a
/-- lists: exchange -/
theorem gn_swp {ns : List Node} {i k n : Nat} (hn : ns.length = n) (hi : i < n) (hk : k < n) (j : Nat) : gn (swpN ns i k) j = if j = k then gn ns i else if j = i then gn ns k else gn ns j := by
  unfold gn Codec.g swpN
  rw [List.getD_eq_getElem?_getD, List.getElem?_set, List.getElem?_set, List.length_set]
  by_cases h1 : k = j
  · have h1' : j = k := h1.symm
    rw [if_pos h1, if_pos h1', if_pos (by omega)]
    rfl
  · have h1' : ¬ j = k := fun e => h1 e.symm
    rw [if_neg h1, if_neg h1']
    by_cases h2 : i = j
    · have h2' : j = i := h2.symm
      rw [if_pos h2, if_pos h2', if_pos (by omega)]
      rfl
    · have h2' : ¬ j = i := fun e => h2 e.symm
      rw [if_neg h2, if_neg h2', List.getD_eq_getElem?_getD]
theorem set_perm {α : Type} : ∀ (l : List α) (i : Nat) (x : α) (h : i < l.length), (l[i] :: l.set i x).Perm (x :: l)
  | y :: l, 0, x, _ => List.Perm.swap _ _ _
  | y :: l, i + 1, x, h => by
    have ih := set_perm l i x (by simpa using h)
    have hi : i < l.length := by simpa using h
    show (l[i] :: y :: l.set i x).Perm (x :: y :: l)
    exact (List.Perm.swap _ _ _).trans ((List.Perm.cons y ih).trans (List.Perm.swap _ _ _))
theorem swp_perm {ns : List Node} {i k n : Nat} (hn : ns.length = n) (hi : i < n) (hk : k < n) : (swpN ns i k).Perm ns := by
  by_cases e : i = k
  · subst e
    unfold swpN
    rw [List.set_set, show gn ns i = ns[i]'(by omega) from nodeC.g_eq (by omega), List.set_getElem_self]
  · have h1 := set_perm ns i (gn ns k) (by omega)
    have h2 := set_perm (ns.set i (gn ns k)) k (gn ns i) (by rw [List.length_set]; omega)
    have e1 : (ns.set i (gn ns k))[k]'(by rw [List.length_set]; omega) = gn ns k := by
      rw [List.getElem_set_ne (by omega)]
      exact (nodeC.g_eq (by omega)).symm
    have e2 : ns[i]'(by omega) = gn ns i := (nodeC.g_eq (by omega)).symm
    rw [e1] at h2
    rw [e2] at h1
    exact (List.perm_cons (gn ns k)).1 (h2.trans h1)
/-- each node but the first comes no earlier than its parent -/
def HeapOk (lt : Lab → Lab → Bool) (ns : List Node) : Prop := ∀ j, 0 < j → j < ns.length → Le lt (gn ns ((j - 1) / 2)) (gn ns j)
theorem swim_perm (lt : Lab → Lab → Bool) (g : Nat) (ns : List Node) (i : Nat) (hi : i < ns.length) : (swimN lt g ns i).Perm ns := by
  induction g generalizing ns i with
  | zero => exact List.Perm.refl _
  | succ g ih =>
    rw [swimN]
    split
    · exact (ih _ _ (by rw [swpN_len]; omega)).trans (swp_perm rfl hi (by omega))
    · exact List.Perm.refl _
theorem swim_ok (hk : Keyed lt f) (n : Nat) (g : Nat) : ∀ (ns : List Node) (i : Nat), ns.length = n → i < n → i < g →
    (∀ j, 0 < j → j < n → j ≠ i → Le lt (gn ns ((j - 1) / 2)) (gn ns j)) → (∀ j, 0 < j → j < n → (j - 1) / 2 = i → 0 < i → Le lt (gn ns ((i - 1) / 2)) (gn ns j)) → HeapOk lt (swimN lt g ns i) := by
  induction g with
  | zero => intro ns i _ _ h; omega
  | succ g ih =>
    intro ns i hn hi hg h1 h2
    rw [swimN]
    split
    · rename_i hc
      obtain ⟨h0, hb⟩ := hc
      have hp : (i - 1) / 2 < n := by omega
      have sw := fun j => gn_swp (k := (i - 1) / 2) hn hi hp j
      refine ih _ _ (by rw [swpN_len]; exact hn) hp (by omega) ?_ ?_
      · intro j hj0 hjn hji
        rw [sw, sw, if_neg hji]
        have hb' := (bef_iff hk _ _).1 hb
        by_cases e : j = i
        · subst e
          rw [if_pos rfl, if_pos rfl, le_iff hk]
          omega
        · rw [if_neg e]
          have hj := (le_iff hk _ _).1 (h1 j hj0 hjn e)
          by_cases e2 : (j - 1) / 2 = i
          · have h3 := h2 j hj0 hjn e2 h0
            rw [if_neg (by omega), if_pos e2]
            exact h3
          · by_cases e3 : (j - 1) / 2 = (i - 1) / 2
            · rw [if_pos e3, le_iff hk]
              rw [e3] at hj
              omega
            · rw [if_neg e3, if_neg e2, le_iff hk]
              exact hj
      · intro j hj0 hjn hpj hp0
        rw [sw, sw, if_neg (show ¬ ((i - 1) / 2 - 1) / 2 = (i - 1) / 2 by omega), if_neg (show ¬ ((i - 1) / 2 - 1) / 2 = i by omega), if_neg (show ¬ j = (i - 1) / 2 by omega)]
        have hpp := (le_iff hk _ _).1 (h1 ((i - 1) / 2) hp0 hp (by omega))
        by_cases e : j = i
        · rw [if_pos e, le_iff hk]
          exact hpp
        · rw [if_neg e, le_iff hk]
          have hj := (le_iff hk _ _).1 (h1 j hj0 hjn e)
          rw [hpj] at hj
          omega
    · rename_i hc
      intro j hj0 hjn
      by_cases e : j = i
      · subst e
        cases hb : bef lt (gn ns j) (gn ns ((j - 1) / 2))
        · exact hb
        · exact absurd ⟨hj0, hb⟩ hc
      · exact h1 j hj0 (by omega) e
theorem kid_spec (lt : Lab → Lab → Bool) {ns : List Node} {i n : Nat} (hn : ns.length = n) (h : 2 * i + 1 < n) : kidN lt ns i < n ∧ (kidN lt ns i - 1) / 2 = i ∧ i < kidN lt ns i := by
  unfold kidN
  split <;> omega
theorem kid_least (hk : Keyed lt f) {ns : List Node} {i n j : Nat} (hn : ns.length = n) (hj0 : 0 < j) (hj : j < n) (hp : (j - 1) / 2 = i) : Le lt (gn ns (kidN lt ns i)) (gn ns j) := by
  have : j = 2 * i + 1 ∨ j = 2 * i + 2 := by omega
  unfold kidN
  split
  · rename_i hc
    rcases this with rfl | rfl
    · have := (bef_iff hk _ _).1 hc.2
      rw [le_iff hk]
      omega
    · rw [le_iff hk]
      omega
  · rename_i hc
    rcases this with rfl | rfl
    · rw [le_iff hk]
      omega
    · cases hb : bef lt (gn ns (2 * i + 2)) (gn ns (2 * i + 1))
      · exact hb
      · exact absurd ⟨by omega, hb⟩ hc
theorem sink_perm (lt : Lab → Lab → Bool) (g : Nat) (ns : List Node) (i : Nat) : (sinkN lt g ns i).Perm ns := by
  induction g generalizing ns i with
  | zero => exact List.Perm.refl _
  | succ g ih =>
    rw [sinkN]
    split
    · exact List.Perm.refl _
    · rename_i h
      split
      · obtain ⟨h1, _, h3⟩ := kid_spec lt (ns := ns) (i := i) rfl (by omega)
        exact (ih _ _).trans (swp_perm rfl (by omega) h1)
      · exact List.Perm.refl _
theorem sink_ok (hk : Keyed lt f) (n : Nat) (g : Nat) : ∀ (ns : List Node) (i : Nat), ns.length = n → n ≤ i + g →
    (∀ j, 0 < j → j < n → (j - 1) / 2 ≠ i → Le lt (gn ns ((j - 1) / 2)) (gn ns j)) → (∀ j, 0 < j → j < n → (j - 1) / 2 = i → 0 < i → Le lt (gn ns ((i - 1) / 2)) (gn ns j)) → HeapOk lt (sinkN lt g ns i) := by
  induction g with
  | zero =>
    intro ns i hn hg h1 _ j hj0 hj
    have hj' : j < ns.length := hj
    exact h1 j hj0 (by omega) (by omega)
  | succ g ih =>
    intro ns i hn hg h1 h2
    rw [sinkN]
    split
    · rename_i hc
      intro j hj0 hj
      exact h1 j hj0 (by omega) (by omega)
    · rename_i hc
      obtain ⟨k1, k2, k3⟩ := kid_spec lt hn (show 2 * i + 1 < n by omega)
      have kl := fun j hj0 hj hp => kid_least hk (j := j) hn hj0 hj (i := i) hp
      split
      · rename_i hb
        generalize kidN lt ns i = k at k1 k2 k3 kl hb ⊢
        have hb' := (bef_iff hk _ _).1 hb
        have sw := fun j => gn_swp (i := i) (k := k) hn (by omega) k1 j
        refine ih _ _ (by rw [swpN_len]; exact hn) (by omega) ?_ ?_
        · intro j hj0 hjn hpj
          rw [sw, sw, if_neg hpj]
          by_cases e : j = k
          · rw [if_pos e, if_pos (show (j - 1) / 2 = i by omega), le_iff hk]
            omega
          · rw [if_neg e]
            by_cases e2 : (j - 1) / 2 = i
            · rw [if_pos e2, if_neg (show ¬ j = i by omega)]
              exact kl j hj0 hjn e2
            · rw [if_neg e2]
              have hj := h1 j hj0 hjn e2
              by_cases e3 : j = i
              · rw [if_pos e3]
                have := h2 k (by omega) k1 k2 (by omega)
                rwa [e3]
              · rw [if_neg e3]
                exact hj
        · intro j hj0 hjn hpj _
          rw [sw, sw, k2, if_neg (show ¬ i = k by omega), if_pos rfl, if_neg (show ¬ j = k by omega), if_neg (show ¬ j = i by omega)]
          have := h1 j hj0 hjn (by omega)
          rwa [hpj] at this
      · rename_i hb
        have hb2 : bef lt (gn ns (kidN lt ns i)) (gn ns i) = false := by
          cases h : bef lt (gn ns (kidN lt ns i)) (gn ns i)
          · rfl
          · exact absurd h hb
        have hb' := (bef_not hk _ _).1 hb2
        intro j hj0 hj
        by_cases e : (j - 1) / 2 = i
        · have := (le_iff hk _ _).1 (kl j hj0 (by omega) e)
          rw [e, le_iff hk]
          omega
        · exact h1 j hj0 (by omega) e
theorem root_least (hk : Keyed lt f) {ns : List Node} (h : HeapOk lt ns) : ∀ i, i < ns.length → Le lt (gn ns 0) (gn ns i) := by
  intro i
  induction i using Nat.strongRecOn with
  | ind i ih =>
    intro hi
    by_cases h0 : i = 0
    · subst h0
      rw [le_iff hk]
      omega
    · have h1 := (le_iff hk _ _).1 (ih ((i - 1) / 2) (by omega) (by omega))
      have h2 := (le_iff hk _ _).1 (h i (by omega) hi)
      rw [le_iff hk]
      omega
theorem gn_mem {ns : List Node} {k : Nat} (h : k < ns.length) : gn ns k ∈ ns := nodeC.g_mem h
theorem mem_gn {ns : List Node} {x : Node} (h : x ∈ ns) : ∃ k, k < ns.length ∧ gn ns k = x := by
  obtain ⟨k, hk, e⟩ := List.getElem_of_mem h
  exact ⟨k, hk, (nodeC.g_eq hk).trans e⟩
theorem push_perm (lt : Lab → Lab → Bool) (ns : List Node) (x : Lab) (pu : Int) : (pushN lt ns x pu).Perm (ns ++ [⟨x, pu⟩]) := by
  unfold pushN
  exact swim_perm lt _ _ _ (by rw [List.length_append]; simp)
theorem push_ok (hk : Keyed lt f) {ns : List Node} (x : Lab) (pu : Int) (h : HeapOk lt ns) : HeapOk lt (pushN lt ns x pu) := by
  unfold pushN
  have hl : (ns ++ [Node.mk x pu]).length = ns.length + 1 := by rw [List.length_append]; rfl
  have hg : ∀ j, j < ns.length → gn (ns ++ [Node.mk x pu]) j = gn ns j := fun j hj => nodeC.g_app_left hj
  refine swim_ok hk (ns.length + 1) _ _ _ hl (by omega) (by omega) ?_ ?_
  · intro j hj0 hj hne
    rw [hg j (by omega), hg _ (by omega)]
    exact h j hj0 (by omega)
  · intro j hj0 hj hp h0
    omega
theorem gn_take {ns : List Node} {m j : Nat} (h : j < m) : gn (ns.take m) j = gn ns j := nodeC.g_of_take h
theorem pop_perm (lt : Lab → Lab → Bool) {ns : List Node} {m : Nat} (hn : ns.length = m + 1) : (gn ns 0 :: popN lt ns).Perm ns := by
  have h1 : (popN lt ns).Perm ((swpN ns 0 m).take m) := by
    unfold popN
    rw [hn]
    exact sink_perm lt _ _ _
  have h2 := swp_perm (i := 0) (k := m) hn (by omega) (by omega)
  have h3 : (swpN ns 0 m).take m ++ [gn ns 0] = swpN ns 0 m := by
    have hl : m < (swpN ns 0 m).length := by rw [swpN_len, hn]; omega
    have h4 := nodeC.g_take hl
    have h5 := gn_swp (i := 0) (k := m) hn (by omega) (by omega) m
    rw [if_pos rfl] at h5
    rw [show nodeC.g (swpN ns 0 m) m = gn ns 0 from h5] at h4
    rw [← h4, List.take_of_length_le (by rw [swpN_len, hn]; omega)]
  have h6 : (gn ns 0 :: (swpN ns 0 m).take m).Perm (swpN ns 0 m) := by
    have := List.perm_append_comm (l₁ := [gn ns 0]) (l₂ := (swpN ns 0 m).take m)
    rw [h3] at this
    exact this
  exact ((h1.cons (gn ns 0)).trans h6).trans h2
theorem pop_ok (hk : Keyed lt f) {ns : List Node} {m : Nat} (hn : ns.length = m + 1) (h : HeapOk lt ns) : HeapOk lt (popN lt ns) := by
  unfold popN
  rw [hn, Nat.add_sub_cancel]
  have hl : ((swpN ns 0 m).take m).length = m := swpN_take_len hn
  have sw := fun j => gn_swp (i := 0) (k := m) hn (by omega) (by omega) j
  refine sink_ok hk m _ _ 0 hl (by omega) ?_ ?_
  · intro j hj0 hj hp
    rw [gn_take (by omega), gn_take hj, sw, sw, if_neg (show ¬ (j - 1) / 2 = m by omega), if_neg hp, if_neg (show ¬ j = m by omega), if_neg (show ¬ j = 0 by omega)]
    exact h j hj0 (by omega)
  · intro j _ _ _ h0
    omega
theorem root_all (hk : Keyed lt f) {ns : List Node} (h : HeapOk lt ns) : ∀ x ∈ ns, Le lt (gn ns 0) x := fun x hx => by
  obtain ⟨k, hk', e⟩ := mem_gn hx
  rw [← e]
  exact root_least hk h k hk'
end
end Go.Proofs.Ytabhinmodnmllaa
