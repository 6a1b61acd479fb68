/-
  The plain law of the heap: pushing, popping, draining, the two sorts. No program in sight.
-/
import Derived.Test.YtndbdgadijbhnaaHlaw
namespace Go.Proofs.Ytndbdgadijbhnaa
section
variable {lt : Pair → Pair → Bool} {f : Pair → Int}
/-- the numbers increase -/
def Inc (ns : List Node) : Prop := ns.Pairwise fun a b => a.num < b.num
/-- sorted, equals in the order of their numbers -/
def Srt (lt : Pair → Pair → Bool) (ns : List Node) : Prop := ns.Pairwise (Le lt)
/-- the numbers differ -/
def Dif (ns : List Node) : Prop := ns.Pairwise fun a b => a.num ≠ b.num
theorem Inc.dif {ns : List Node} (h : Inc ns) : Dif ns := h.imp (fun h => by omega)
theorem Dif.perm {ns ms : List Node} (h : Dif ns) (hp : ns.Perm ms) : Dif ms := hp.pairwise h (fun h => Ne.symm h)
theorem gn_mem {ns : List Node} {k : Nat} (h : k < ns.length) : gn ns k ∈ ns := nodeC.g_mem h
theorem mem_gn {ns : List Node} {x : Node} (h : x ∈ ns) : ∃ k, k < ns.length ∧ gn ns k = x := by
  obtain ⟨k, hk, e⟩ := List.getElem_of_mem h
  exact ⟨k, hk, (nodeC.g_eq hk).trans e⟩
theorem push_perm (lt : Pair → Pair → Bool) (ns : List Node) (x : Pair) (pu : Int) : (pushN lt ns x pu).Perm (ns ++ [⟨x, pu⟩]) := by
  unfold pushN
  exact swim_perm lt _ _ _ (by rw [List.length_append]; simp)
theorem push_ok (hk : Keyed lt f) {ns : List Node} (x : Pair) (pu : Int) (h : HeapOk lt ns) : HeapOk lt (pushN lt ns x pu) := by
  unfold pushN
  have hl : (ns ++ [Node.mk x pu]).length = ns.length + 1 := by rw [List.length_append]; rfl
  have hg : ∀ j, j < ns.length → gn (ns ++ [Node.mk x pu]) j = gn ns j := fun j hj => nodeC.g_app_left hj
  refine swim_ok hk (ns.length + 1) _ _ _ hl (by omega) (by omega) ?_ ?_
  · intro j hj0 hj hne
    rw [hg j (by omega), hg _ (by omega)]
    exact h j hj0 (by omega)
  · intro j hj0 hj hp h0
    omega
theorem gn_take {ns : List Node} {m j : Nat} (h : j < m) : gn (ns.take m) j = gn ns j := nodeC.g_of_take h
theorem pop_perm (lt : Pair → Pair → Bool) {ns : List Node} {m : Nat} (hn : ns.length = m + 1) : (gn ns 0 :: popN lt ns).Perm ns := by
  have h1 : (popN lt ns).Perm ((swpN ns 0 m).take m) := by
    unfold popN
    rw [hn]
    exact sink_perm lt _ _ _
  have h2 := swp_perm (i := 0) (k := m) hn (by omega) (by omega)
  have h3 : (swpN ns 0 m).take m ++ [gn ns 0] = swpN ns 0 m := by
    have hl : m < (swpN ns 0 m).length := by rw [swpN_len, hn]; omega
    have h4 := nodeC.g_take hl
    have h5 := gn_swp (i := 0) (k := m) hn (by omega) (by omega) m
    rw [if_pos rfl] at h5
    rw [show nodeC.g (swpN ns 0 m) m = gn ns 0 from h5] at h4
    rw [← h4, List.take_of_length_le (by rw [swpN_len, hn]; omega)]
  have h6 : (gn ns 0 :: (swpN ns 0 m).take m).Perm (swpN ns 0 m) := by
    have := List.perm_append_comm (l₁ := [gn ns 0]) (l₂ := (swpN ns 0 m).take m)
    rw [h3] at this
    exact this
  exact ((h1.cons (gn ns 0)).trans h6).trans h2
theorem pop_ok (hk : Keyed lt f) {ns : List Node} {m : Nat} (hn : ns.length = m + 1) (h : HeapOk lt ns) : HeapOk lt (popN lt ns) := by
  unfold popN
  rw [hn, Nat.add_sub_cancel]
  have hl : ((swpN ns 0 m).take m).length = m := swpN_take_len hn
  have sw := fun j => gn_swp (i := 0) (k := m) hn (by omega) (by omega) j
  refine sink_ok hk m _ _ 0 hl (by omega) ?_ ?_
  · intro j hj0 hj hp
    rw [gn_take (by omega), gn_take hj, sw, sw, if_neg (show ¬ (j - 1) / 2 = m by omega), if_neg hp, if_neg (show ¬ j = m by omega), if_neg (show ¬ j = 0 by omega)]
    exact h j hj0 (by omega)
  · intro j _ _ _ h0
    omega
theorem root_all (hk : Keyed lt f) {ns : List Node} (h : HeapOk lt ns) : ∀ x ∈ ns, Le lt (gn ns 0) x := fun x hx => by
  obtain ⟨k, hk', e⟩ := mem_gn hx
  rw [← e]
  exact root_least hk h k hk'
/-- the nodes in the order of Drain -/
def drainN (lt : Pair → Pair → Bool) : Nat → List Node → List Node
  | 0, _ => []
  | g + 1, ns => gn ns 0 :: drainN lt g (popN lt ns)
theorem drain_map (lt : Pair → Pair → Bool) (g : Nat) (ns : List Node) : drainL lt g ns = (drainN lt g ns).map Node.p := by
  induction g generalizing ns with
  | zero => rfl
  | succ g ih => rw [drainL, drainN, List.map_cons, ih]
theorem drain_perm (lt : Pair → Pair → Bool) (g : Nat) (ns : List Node) (hn : ns.length = g) : (drainN lt g ns).Perm ns := by
  induction g generalizing ns with
  | zero => rw [List.eq_nil_of_length_eq_zero hn]; exact List.Perm.refl _
  | succ g ih =>
    rw [drainN]
    exact ((ih _ (popN_len hn)).cons _).trans (pop_perm lt hn)
theorem drain_srt (hk : Keyed lt f) (g : Nat) (ns : List Node) (hn : ns.length = g) (h : HeapOk lt ns) : Srt lt (drainN lt g ns) := by
  induction g generalizing ns with
  | zero => exact List.Pairwise.nil
  | succ g ih =>
    rw [drainN]
    refine List.pairwise_cons.2 ⟨fun x hx => ?_, ih _ (popN_len hn) (pop_ok hk hn h)⟩
    have h1 := (drain_perm lt g _ (popN_len hn)).subset hx
    exact root_all hk h x ((pop_perm lt hn).subset (List.mem_cons_of_mem _ h1))
/-- two sorted lists of the same nodes are the same -/
theorem srt_unique (hk : Keyed lt f) : ∀ (ns ms : List Node), ns.Perm ms → Srt lt ns → Srt lt ms → Dif ns → ns = ms
  | [], ms, hp, _, _, _ => by rw [List.nil_perm] at hp; exact hp.symm
  | x :: ns, [], hp, _, _, _ => by simp at hp
  | x :: ns, y :: ms, hp, h1, h2, hd => by
    have e : x = y := by
      by_cases e : x = y
      · exact e
      · have hx : x ∈ ms := by
          have := hp.subset (List.mem_cons_self (a := x) (l := ns))
          rcases List.mem_cons.1 this with h | h
          · exact absurd h e
          · exact h
        have hy : y ∈ ns := by
          have := hp.symm.subset (List.mem_cons_self (a := y) (l := ms))
          rcases List.mem_cons.1 this with h | h
          · exact absurd h.symm e
          · exact h
        have l1 := (le_iff hk _ _).1 ((List.pairwise_cons.1 h1).1 y hy)
        have l2 := (le_iff hk _ _).1 ((List.pairwise_cons.1 h2).1 x hx)
        have l3 := (List.pairwise_cons.1 hd).1 y hy
        omega
    subst e
    rw [srt_unique hk ns ms ((List.perm_cons x).1 hp) (List.pairwise_cons.1 h1).2 (List.pairwise_cons.1 h2).2 (List.pairwise_cons.1 hd).2]
/-- the order of nodes by their elements -/
def ltN (lt : Pair → Pair → Bool) (a b : Node) : Bool := lt a.p b.p
theorem merge_map (lt : Pair → Pair → Bool) : ∀ (xs ys : List Node), mergeL lt (xs.map Node.p) (ys.map Node.p) = (mergeL (ltN lt) xs ys).map Node.p
  | [], ys => by rw [List.map_nil, merge_nil_left, merge_nil_left]
  | x :: xs, [] => by rw [List.map_nil, merge_nil_right, merge_nil_right]
  | x :: xs, y :: ys => by
    rw [List.map_cons, List.map_cons]
    cases h : lt y.p x.p
    · have h' : ltN lt y x = false := h
      rw [merge_left h, merge_left h', List.map_cons, ← merge_map lt xs (y :: ys), List.map_cons]
    · have h' : ltN lt y x = true := h
      rw [merge_right h, merge_right h', List.map_cons, ← merge_map lt (x :: xs) ys, List.map_cons]
termination_by xs ys => xs.length + ys.length
theorem msort_map (lt : Pair → Pair → Bool) (g : Nat) (ns : List Node) : msortL lt g (ns.map Node.p) = (msortL (ltN lt) g ns).map Node.p := by
  induction g generalizing ns with
  | zero => rfl
  | succ g ih =>
    rw [msortL, msortL, List.length_map]
    split
    · rfl
    · rw [← merge_map, ← ih, ← ih, List.map_take, List.map_drop]
theorem mergeL_perm {α : Type} (lt : α → α → Bool) (xs ys : List α) : (mergeL lt xs ys).Perm (xs ++ ys) := List.merge_perm_append _
theorem msortL_perm {α : Type} (lt : α → α → Bool) (g : Nat) (xs : List α) : (msortL lt g xs).Perm xs := by
  induction g generalizing xs with
  | zero => exact List.Perm.refl _
  | succ g ih =>
    rw [msortL]
    split
    · exact List.Perm.refl _
    · have := (mergeL_perm lt _ _).trans ((ih (xs.take (xs.length / 2))).append (ih (xs.drop (xs.length / 2))))
      rwa [List.take_append_drop] at this
theorem merge_srt (hk : Keyed lt f) : ∀ (xs ys : List Node), Srt lt xs → Srt lt ys → (∀ x ∈ xs, ∀ y ∈ ys, x.num < y.num) → Srt lt (mergeL (ltN lt) xs ys)
  | [], ys, _, h2, _ => by rw [merge_nil_left]; exact h2
  | x :: xs, [], h1, _, _ => by rw [merge_nil_right]; exact h1
  | x :: xs, y :: ys, h1, h2, hd => by
    obtain ⟨a1, a2⟩ := List.pairwise_cons.1 h1
    obtain ⟨b1, b2⟩ := List.pairwise_cons.1 h2
    have hxy := hd x List.mem_cons_self y List.mem_cons_self
    cases h : ltN lt y x
    · have h' : ¬ f y.p < f x.p := by
        have := hk y.p x.p
        rw [show lt y.p x.p = false from h] at this
        simpa using this.symm
      rw [merge_left h]
      refine List.pairwise_cons.2 ⟨fun z hz => ?_, merge_srt hk xs (y :: ys) a2 h2 (fun u hu v hv => hd u (List.mem_cons_of_mem _ hu) v hv)⟩
      rcases List.mem_append.1 ((mergeL_perm _ _ _).subset hz) with hz | hz
      · exact a1 z hz
      · rw [le_iff hk]
        rcases List.mem_cons.1 hz with rfl | hz
        · omega
        · have := (le_iff hk _ _).1 (b1 z hz)
          have := hd x List.mem_cons_self z (List.mem_cons_of_mem _ hz)
          omega
    · have h' : f y.p < f x.p := by
        have := hk y.p x.p
        rw [show lt y.p x.p = true from h] at this
        simpa using this.symm
      rw [merge_right h]
      refine List.pairwise_cons.2 ⟨fun z hz => ?_, merge_srt hk (x :: xs) ys h1 b2 (fun u hu v hv => hd u hu v (List.mem_cons_of_mem _ hv))⟩
      rcases List.mem_append.1 ((mergeL_perm _ _ _).subset hz) with hz | hz
      · rw [le_iff hk]
        rcases List.mem_cons.1 hz with rfl | hz
        · omega
        · have := (le_iff hk _ _).1 (a1 z hz)
          omega
      · exact b1 z hz
termination_by xs ys => xs.length + ys.length
theorem msort_srt (hk : Keyed lt f) (g : Nat) (ns : List Node) (hg : ns.length ≤ g) (h : Inc ns) : Srt lt (msortL (ltN lt) g ns) := by
  induction g generalizing ns with
  | zero => rw [List.eq_nil_of_length_eq_zero (by omega : ns.length = 0)]; exact List.Pairwise.nil
  | succ g ih =>
    rw [msortL]
    split
    · rename_i hc
      match ns, hc with
      | [], _ => exact List.Pairwise.nil
      | [x], _ => exact List.pairwise_singleton _ _
      | x :: y :: t, hc => simp at hc; omega
    · have h' : Inc (ns.take (ns.length / 2) ++ ns.drop (ns.length / 2)) := by rw [List.take_append_drop]; exact h
      obtain ⟨c1, c2, c3⟩ := List.pairwise_append.1 h'
      refine merge_srt hk _ _ (ih _ (by rw [List.length_take]; omega) c1) (ih _ (by rw [List.length_drop]; omega) c2) fun x hx y hy => ?_
      exact c3 x ((msortL_perm _ _ _).subset hx) y ((msortL_perm _ _ _).subset hy)
/-- the first least of nodes in the order of their numbers -/
theorem best_least (hk : Keyed lt f) {ns : List Node} {n : Nat} (hn : ns.length = n) (hi : Inc ns) : ∀ k, 0 < k → k ≤ n → ∀ j, j < k → Le lt (gn ns (bestTo lt (ns.map Node.p) k)) (gn ns j) := by
  have hgp : ∀ j, j < n → gp (ns.map Node.p) j = (gn ns j).p := fun j hj => by
    unfold gp gn Codec.g
    rw [List.getD_eq_getElem?_getD, List.getD_eq_getElem?_getD, List.getElem?_map, List.getElem?_eq_getElem (by omega)]
    rfl
  have hnum : ∀ i j, i < j → j < n → (gn ns i).num < (gn ns j).num := fun i j hij hj => by
    rw [show gn ns i = ns[i]'(by omega) from nodeC.g_eq (by omega), show gn ns j = ns[j]'(by omega) from nodeC.g_eq (by omega)]
    exact List.pairwise_iff_getElem.1 hi i j (by omega) (by omega) hij
  intro k
  induction k with
  | zero => intro h; omega
  | succ k ih =>
    intro _ hkn j hj
    by_cases h0 : k = 0
    · subst h0
      obtain rfl : j = 0 := by omega
      rw [show bestTo lt (ns.map Node.p) (0 + 1) = 0 from rfl, le_iff hk]
      omega
    · have hb := bestTo_lt lt (ns.map Node.p) (k := k) (by omega)
      have hih := ih (by omega) (by omega)
      cases hl : lt (gp (ns.map Node.p) k) (gp (ns.map Node.p) (bestTo lt (ns.map Node.p) k))
      · rw [best_old (by omega) hl]
        by_cases e : j = k
        · subst e
          rw [hgp _ (by omega), hgp _ (by omega), hk] at hl
          have hl' := of_decide_eq_false hl
          have := hnum _ _ hb (by omega)
          rw [le_iff hk]
          omega
        · exact hih j (by omega)
      · rw [best_new (by omega) hl]
        rw [hgp _ (by omega), hgp _ (by omega), hk] at hl
        have hl' := of_decide_eq_true hl
        by_cases e : j = k
        · subst e
          rw [le_iff hk]
          omega
        · have := (le_iff hk _ _).1 (hih j (by omega))
          rw [le_iff hk]
          omega
theorem erase_inc {ns : List Node} (h : Inc ns) (i : Nat) : Inc (ns.eraseIdx i) := List.Pairwise.sublist (List.eraseIdx_sublist _ _) h
/-- the nodes in the order of the selection sort -/
def selN (lt : Pair → Pair → Bool) : Nat → List Node → List Node
  | 0, _ => []
  | g + 1, ns => gn ns (bestTo lt (ns.map Node.p) (g + 1)) :: selN lt g (ns.eraseIdx (bestTo lt (ns.map Node.p) (g + 1)))
theorem gp_map {ns : List Node} {n j : Nat} (hn : ns.length = n) (hj : j < n) : gp (ns.map Node.p) j = (gn ns j).p := by
  unfold gp gn Codec.g
  rw [List.getD_eq_getElem?_getD, List.getD_eq_getElem?_getD, List.getElem?_map, List.getElem?_eq_getElem (by omega)]
  rfl
theorem map_erase (ns : List Node) (i : Nat) : (ns.eraseIdx i).map Node.p = (ns.map Node.p).eraseIdx i := by
  rw [List.eraseIdx_eq_take_drop_succ, List.eraseIdx_eq_take_drop_succ, List.map_append, List.map_take, List.map_drop]
theorem sel_map (lt : Pair → Pair → Bool) (g : Nat) (ns : List Node) (hn : ns.length = g) : selL lt g (ns.map Node.p) = (selN lt g ns).map Node.p := by
  induction g generalizing ns with
  | zero => rfl
  | succ g ih =>
    have hb := bestTo_lt lt (ns.map Node.p) (k := g + 1) (by omega)
    rw [selL, selN, List.map_cons, ← ih _ (by rw [List.length_eraseIdx_of_lt (by omega)]; omega), map_erase, gp_map hn hb]
theorem gn_erase_perm {ns : List Node} {i : Nat} (h : i < ns.length) : (gn ns i :: ns.eraseIdx i).Perm ns := by
  rw [show gn ns i = ns[i] from nodeC.g_eq h]
  exact erase_perm h
theorem sel_perm (lt : Pair → Pair → Bool) (g : Nat) (ns : List Node) (hn : ns.length = g) : (selN lt g ns).Perm ns := by
  induction g generalizing ns with
  | zero => rw [List.eq_nil_of_length_eq_zero hn]; exact List.Perm.refl _
  | succ g ih =>
    have hb := bestTo_lt lt (ns.map Node.p) (k := g + 1) (by omega)
    rw [selN]
    exact ((ih _ (by rw [List.length_eraseIdx_of_lt (by omega)]; omega)).cons _).trans (gn_erase_perm (by omega))
theorem sel_srt (hk : Keyed lt f) (g : Nat) (ns : List Node) (hn : ns.length = g) (h : Inc ns) : Srt lt (selN lt g ns) := by
  induction g generalizing ns with
  | zero => exact List.Pairwise.nil
  | succ g ih =>
    have hb := bestTo_lt lt (ns.map Node.p) (k := g + 1) (by omega)
    rw [selN]
    have hl : (ns.eraseIdx (bestTo lt (ns.map Node.p) (g + 1))).length = g := by rw [List.length_eraseIdx_of_lt (by omega)]; omega
    refine List.pairwise_cons.2 ⟨fun x hx => ?_, ih _ hl (erase_inc h _)⟩
    have h1 := (sel_perm lt g _ hl).subset hx
    have h2 := List.eraseIdx_subset h1
    obtain ⟨k, hk', e⟩ := mem_gn h2
    rw [← e]
    exact best_least hk hn h (g + 1) (by omega) (by omega) k (by omega)
/-- elements with their places -/
def tag : Nat → List Pair → List Node
  | _, [] => []
  | k, x :: xs => ⟨x, k⟩ :: tag (k + 1) xs
theorem tag_map (k : Nat) (xs : List Pair) : (tag k xs).map Node.p = xs := by
  induction xs generalizing k with
  | nil => rfl
  | cons x xs ih => rw [tag, List.map_cons, ih]
theorem tag_len (k : Nat) (xs : List Pair) : (tag k xs).length = xs.length := by rw [← List.length_map (f := Node.p), tag_map]
theorem tag_ge (k : Nat) (xs : List Pair) : ∀ a ∈ tag k xs, (k : Int) ≤ a.num := by
  induction xs generalizing k with
  | nil => intro a ha; cases ha
  | cons x xs ih =>
    intro a ha
    rcases List.mem_cons.1 ha with rfl | ha
    · show (k : Int) ≤ (k : Int)
      omega
    · have := ih (k + 1) a ha
      omega
theorem tag_inc (k : Nat) (xs : List Pair) : Inc (tag k xs) := by
  induction xs generalizing k with
  | nil => exact List.Pairwise.nil
  | cons x xs ih =>
    refine List.pairwise_cons.2 ⟨fun a ha => ?_, ih (k + 1)⟩
    have := tag_ge (k + 1) xs a ha
    show (k : Int) < a.num
    omega
theorem tag_app (k : Nat) (xs : List Pair) (x : Pair) : tag k (xs ++ [x]) = tag k xs ++ [⟨x, ((k + xs.length : Nat) : Int)⟩] := by
  induction xs generalizing k with
  | nil => rfl
  | cons y xs ih =>
    rw [List.cons_append, tag, tag, ih, List.cons_append, List.length_cons]
    congr 4
    omega
/-- the heap holds what the list holds -/
structure Holds (lt : Pair → Pair → Bool) (ns : List Node) (r : List Pair) (pu : Nat) : Prop where
  ok : HeapOk lt ns
  rn : ∃ rn : List Node, rn.map Node.p = r ∧ Inc rn ∧ (∀ a ∈ rn, a.num < (pu : Int)) ∧ ns.Perm rn
theorem Holds.len {ns : List Node} {r : List Pair} {pu : Nat} (h : Holds lt ns r pu) : ns.length = r.length := by
  obtain ⟨rn, h1, _, _, h4⟩ := h.rn
  rw [h4.length_eq, ← h1, List.length_map]
theorem Holds.nil (lt : Pair → Pair → Bool) (pu : Nat) : Holds lt [] [] pu := ⟨fun j h1 h2 => absurd h2 (by simp), [], rfl, List.Pairwise.nil, (by intro a ha; cases ha), List.Perm.refl _⟩
theorem Holds.push (hk : Keyed lt f) {ns : List Node} {r : List Pair} {pu : Nat} (h : Holds lt ns r pu) (x : Pair) : Holds lt (pushN lt ns x pu) (r ++ [x]) (pu + 1) := by
  obtain ⟨rn, h1, h2, h3, h4⟩ := h.rn
  refine ⟨push_ok hk x pu h.ok, rn ++ [⟨x, pu⟩], by rw [List.map_append, h1]; rfl, ?_, ?_, (push_perm lt ns x pu).trans (h4.append_right _)⟩
  · refine List.pairwise_append.2 ⟨h2, List.pairwise_singleton _ _, fun a ha b hb => ?_⟩
    rw [List.mem_singleton.1 hb]
    exact h3 a ha
  · intro a ha
    rcases List.mem_append.1 ha with ha | ha
    · have := h3 a ha
      omega
    · rw [List.mem_singleton.1 ha]
      show (pu : Int) < ((pu + 1 : Nat) : Int)
      omega
/-- the first of the heap is the first least of the list -/
theorem Holds.first (hk : Keyed lt f) {ns : List Node} {r : List Pair} {pu n : Nat} (h : Holds lt ns r pu) (hn : r.length = n + 1) :
    (gn ns 0).p = gp r (bestTo lt r (n + 1)) ∧ Holds lt (popN lt ns) (r.eraseIdx (bestTo lt r (n + 1))) pu := by
  obtain ⟨rn, h1, h2, h3, h4⟩ := h.rn
  have hns : ns.length = n + 1 := h.len.trans hn
  have hrn : rn.length = n + 1 := by rw [← h4.length_eq, hns]
  have hb := bestTo_lt lt r (k := n + 1) (by omega)
  have e : gn ns 0 = gn rn (bestTo lt r (n + 1)) := by
    have m1 : gn ns 0 ∈ rn := h4.subset (gn_mem (by omega))
    have m2 : gn rn (bestTo lt r (n + 1)) ∈ ns := h4.symm.subset (gn_mem (by omega))
    have l1 := (le_iff hk _ _).1 (root_all hk h.ok _ m2)
    obtain ⟨k, hk', ek⟩ := mem_gn m1
    have l2 := best_least hk hrn h2 (n + 1) (by omega) (by omega) k (by omega)
    rw [h1, ek] at l2
    have l3 := (le_iff hk _ _).1 l2
    by_cases hkb : k = bestTo lt r (n + 1)
    · rw [← ek, hkb]
    · have hnum : (gn rn k).num ≠ (gn rn (bestTo lt r (n + 1))).num := by
        rw [show gn rn k = rn[k]'hk' from nodeC.g_eq hk', show gn rn (bestTo lt r (n + 1)) = rn[bestTo lt r (n + 1)]'(by omega) from nodeC.g_eq (by omega)]
        rcases Nat.lt_or_gt_of_ne hkb with h5 | h5
        · have := List.pairwise_iff_getElem.1 h2 _ _ hk' (by omega) h5
          omega
        · have := List.pairwise_iff_getElem.1 h2 _ _ (by omega) hk' h5
          omega
      rw [ek] at hnum
      omega
  have hpop : (popN lt ns).Perm (rn.eraseIdx (bestTo lt r (n + 1))) := by
    have p1 := (pop_perm lt hns).trans h4
    have p2 := gn_erase_perm (ns := rn) (i := bestTo lt r (n + 1)) (by omega)
    rw [e] at p1
    exact (List.perm_cons _).1 (p1.trans p2.symm)
  refine ⟨?_, pop_ok hk hns h.ok, rn.eraseIdx (bestTo lt r (n + 1)), by rw [map_erase, h1], erase_inc h2 _, fun a ha => h3 a (List.eraseIdx_subset ha), hpop⟩
  rw [e, ← gp_map hrn (by omega), h1]
/-- Drain hands back what the selection sort of the list hands back -/
theorem Holds.drain (hk : Keyed lt f) {ns : List Node} {r : List Pair} {pu n : Nat} (h : Holds lt ns r pu) (hn : r.length = n) : drainL lt n ns = selL lt n r := by
  obtain ⟨rn, h1, h2, h3, h4⟩ := h.rn
  have hns : ns.length = n := h.len.trans hn
  have hrn : rn.length = n := by rw [← h4.length_eq, hns]
  have e : drainN lt n ns = selN lt n rn := by
    refine srt_unique hk _ _ ((drain_perm lt n ns hns).trans (h4.trans (sel_perm lt n rn hrn).symm)) (drain_srt hk n ns hns h.ok) (sel_srt hk n rn hrn h2) ?_
    exact h2.dif.perm (h4.symm.trans (drain_perm lt n ns hns).symm)
  rw [drain_map, e, ← sel_map lt n rn hrn, h1]
theorem Holds.msort (hk : Keyed lt f) {ns : List Node} {r : List Pair} {pu n : Nat} (h : Holds lt ns r pu) (hn : r.length = n) : drainL lt n ns = msortL lt n r := by
  obtain ⟨rn, h1, h2, h3, h4⟩ := h.rn
  have hns : ns.length = n := h.len.trans hn
  have hrn : rn.length = n := by rw [← h4.length_eq, hns]
  have e : drainN lt n ns = msortL (ltN lt) n rn := by
    refine srt_unique hk _ _ ((drain_perm lt n ns hns).trans (h4.trans (msortL_perm (ltN lt) n rn).symm)) (drain_srt hk n ns hns h.ok) (msort_srt hk n rn (by omega) h2) ?_
    exact h2.dif.perm (h4.symm.trans (drain_perm lt n ns hns).symm)
  rw [drain_map, e, ← msort_map, h1]
end
end Go.Proofs.Ytndbdgadijbhnaa
