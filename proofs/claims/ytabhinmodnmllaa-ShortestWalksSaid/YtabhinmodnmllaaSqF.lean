/-
  The next node of a path: plain. By hand.
-/
import Derived.Test.YtabhinmodnmllaaSqE
namespace Go.Proofs.Ytabhinmodnmllaa

/-- a walk of least length and then of fewest edges: by the least number principle, twice -/
theorem least_nat (p : Nat → Prop) : ∀ k, p k → ∃ m, p m ∧ ∀ j, p j → m ≤ j := by
  intro k
  induction k using Nat.strongRecOn with
  | ind k ih =>
    intro hk
    by_cases h : ∃ j, p j ∧ j < k
    · obtain ⟨j, h1, h2⟩ := h
      exact ih j h2 h1
    · exact ⟨k, hk, fun j hj => by
        by_cases h3 : j < k
        · exact absurd ⟨j, hj, h3⟩ h
        · omega⟩
theorem Wk.best_ex {L : Int → List Edge} {n : Nat} (hg : Graph L n) {s v c e : Int} (hw : Wk L s v c e) : ∃ c e, Best L s v c e := by
  have h0 := (hw.len hg).1
  obtain ⟨C, ⟨e1, hw1⟩, hC⟩ := least_nat (fun C : Nat => ∃ e, Wk L s v (C : Int) e) c.toNat ⟨e, by rw [Int.toNat_of_nonneg h0]; exact hw⟩
  have h1 := hw1.edges
  obtain ⟨E, hw2, hE⟩ := least_nat (fun E : Nat => Wk L s v (C : Int) (E : Int)) e1.toNat (by rw [Int.toNat_of_nonneg h1]; exact hw1)
  refine ⟨(C : Int), (E : Int), hw2, fun c' e' hw' => ?_⟩
  have h2 := (hw'.len hg).1
  have h3 := hw'.edges
  have h4 := hC c'.toNat ⟨e', by rw [Int.toNat_of_nonneg h2]; exact hw'⟩
  by_cases h5 : c' = (C : Int)
  · have h6 := hE e'.toNat (by rw [Int.toNat_of_nonneg h3, ← h5]; exact hw')
    exact .inr ⟨h5.symm, by omega⟩
  · exact .inl (by omega)
/-- the rest of the cost remains behind this edge -/
def fitE (cs : List Int) (a : Int) (y : Edge) : Bool := decide (0 ≤ gi cs y.dst.toNat ∧ overE cs y = gi cs a.toNat)
/-- one edge is looked at -/
def pickE (cs : List Int) (a : Int) (best : Int) (y : Edge) : Int := if fitE cs a y = true ∧ (best < 0 ∨ y.dst < best) then y.dst else best
/-- after the first k edges -/
def pickTo (cs : List Int) (a : Int) (L : List Edge) (k : Nat) : Int := (L.take k).foldl (pickE cs a) (-1)
theorem pickTo_zero (cs : List Int) (a : Int) (L : List Edge) : pickTo cs a L 0 = -1 := rfl
theorem pickTo_step {L : List Edge} {k : Nat} (hk : k < L.length) (cs : List Int) (a : Int) : pickTo cs a L (k + 1) = pickE cs a (pickTo cs a L k) (ge L k) := by
  unfold pickTo
  rw [edgeC.g_take hk, List.foldl_append]
  rfl
/-- the same over all edges, those from elsewhere passed over -/
def pickR (cs : List Int) (a : Int) (best : Int) (y : Edge) : Int := if y.src = a then pickE cs a best y else best
def pickRTo (cs : List Int) (a : Int) (l : List Edge) (k : Nat) : Int := (l.take k).foldl (pickR cs a) (-1)
theorem pickRTo_step {L : List Edge} {k : Nat} (hk : k < L.length) (cs : List Int) (a : Int) : pickRTo cs a L (k + 1) = pickR cs a (pickRTo cs a L k) (ge L k) := by
  unfold pickRTo
  rw [edgeC.g_take hk, List.foldl_append]
  rfl
/-- the next node -/
def nextP (l : List Edge) (cs : List Int) (a : Int) : Int := pickTo cs a (fromE l a) (fromE l a).length
theorem pickR_from (cs : List Int) (a : Int) : ∀ (l : List Edge) (b : Int), l.foldl (pickR cs a) b = (fromE l a).foldl (pickE cs a) b
  | [], _ => rfl
  | y :: t, b => by
    unfold fromE
    by_cases e : y.src = a
    · rw [List.filter_cons_of_pos (by simpa using e), List.foldl_cons, List.foldl_cons, pickR, if_pos e]
      exact pickR_from cs a t _
    · rw [List.filter_cons_of_neg (by simpa using e), List.foldl_cons, pickR, if_neg e]
      exact pickR_from cs a t _
theorem pickR_all (l : List Edge) (cs : List Int) (a : Int) : pickRTo cs a l l.length = nextP l cs a := by
  unfold pickRTo nextP pickTo
  rw [List.take_length, List.take_length]
  exact pickR_from cs a l _
/-- what is picked: nothing, or the end of an edge that fits -/
theorem pick_fold (cs : List Int) (a : Int) : ∀ (L : List Edge) (b : Int), (b = -1 ∨ 0 ≤ b) → (∀ y ∈ L, 0 ≤ y.dst) →
    (L.foldl (pickE cs a) b = b ∧ (0 ≤ b ∨ ∀ y ∈ L, fitE cs a y = false)) ∨ ∃ y ∈ L, fitE cs a y = true ∧ L.foldl (pickE cs a) b = y.dst
  | [], b, _, _ => .inl ⟨rfl, .inr (fun y hy => absurd hy (List.not_mem_nil))⟩
  | y :: t, b, hb, hd => by
    have hy := hd y List.mem_cons_self
    rw [List.foldl_cons]
    by_cases e : fitE cs a y = true ∧ (b < 0 ∨ y.dst < b)
    · have he : pickE cs a b y = y.dst := if_pos e
      rw [he]
      rcases pick_fold cs a t y.dst (.inr hy) (fun z hz => hd z (List.mem_cons_of_mem _ hz)) with ⟨h1, _⟩ | ⟨z, hz, h1, h2⟩
      · exact .inr ⟨y, List.mem_cons_self, e.1, h1⟩
      · exact .inr ⟨z, List.mem_cons_of_mem _ hz, h1, h2⟩
    · have he : pickE cs a b y = b := if_neg e
      rw [he]
      rcases pick_fold cs a t b hb (fun z hz => hd z (List.mem_cons_of_mem _ hz)) with ⟨h1, h2⟩ | ⟨z, hz, h1, h2⟩
      · refine .inl ⟨h1, ?_⟩
        by_cases hb0 : 0 ≤ b
        · exact .inl hb0
        · refine .inr fun z hz => ?_
          rcases List.mem_cons.1 hz with rfl | hz
          · cases hf : fitE cs a z
            · rfl
            · exact absurd ⟨hf, .inl (by omega)⟩ e
          · exact (h2.resolve_left hb0) z hz
      · exact .inr ⟨z, List.mem_cons_of_mem _ hz, h1, h2⟩
theorem from_mem {l : List Edge} {a : Int} {y : Edge} : y ∈ fromE l a ↔ y ∈ l ∧ y.src = a := by
  unfold fromE
  rw [List.mem_filter]
  simp
/-- from a node with a best walk of more than no edges, the next node is one edge on -/
theorem next_best {l : List Edge} {n v : Nat} (hn : n ≤ 64) (hv : v < n) (hg : ∀ y ∈ l, GoodE (n : Int) y) {a c e : Int} (ha : 0 ≤ a ∧ a < n) (hb : Best (fromE (turnL l)) (v : Int) a c e) (he : 0 < e) :
    ∃ y ∈ l, y.src = a ∧ nextP l (costsOf l n v) a = y.dst ∧ 0 ≤ y.dst ∧ y.dst < n ∧ Best (fromE (turnL l)) (v : Int) y.dst (c - y.wt) (e - 1) := by
  have hgr : Graph (fromE (turnL l)) n := good_graph (turn_good hg)
  have hs : (0 : Int) ≤ (v : Int) ∧ (v : Int) < (n : Int) := ⟨by omega, by omega⟩
  have hca : gi (costsOf l n v) a.toNat = c * 128 + e := costs_best hn hv hg (u := a.toNat) (by omega) (by rw [Int.toNat_of_nonneg ha.1]; exact hb) hgr
  have hsh := best_short hgr hs hb
  -- an edge that fits
  have hex : ∃ y ∈ fromE l a, fitE (costsOf l n v) a y = true := by
    rcases wk_last hb.1 with ⟨_, _, h0⟩ | ⟨u', c', e', z, hw', hz, h1, h2, h3⟩
    · omega
    · obtain ⟨y, hy, rfl, h4⟩ := from_turn hz
      replace h1 : a = y.src := h1
      replace h2 : c = c' + y.wt := h2
      have hbu : Best (fromE (turnL l)) (v : Int) u' c' e' := ⟨hw', fun c2 e2 hw2 => by
        have := hb.2 _ _ (show Wk (fromE (turnL l)) (v : Int) a (c2 + (turnE y).wt) (e2 + 1) by rw [h1]; exact hw2.step hz)
        replace this : LL c e (c2 + y.wt) (e2 + 1) := this
        unfold LL at *
        omega⟩
      have hgy := (hg y hy).2.1
      have hcu := costs_best hn hv hg (u := y.dst.toNat) (by omega) (by rw [Int.toNat_of_nonneg hgy.1, h4]; exact hbu) hgr
      have := hw'.edges
      have := (hw'.len hgr).1
      refine ⟨y, from_mem.2 ⟨hy, h1.symm⟩, decide_eq_true ⟨by rw [hcu]; omega, ?_⟩⟩
      unfold overE
      rw [hcu, hca]
      omega
  obtain ⟨y0, hy0, hf0⟩ := hex
  have hp := pick_fold (costsOf l n v) a (fromE l a) (-1) (.inl rfl) (fun y hy => ((hg y (from_mem.1 hy).1).2.1).1)
  have hne : nextP l (costsOf l n v) a = (fromE l a).foldl (pickE (costsOf l n v) a) (-1) := by
    unfold nextP pickTo
    rw [List.take_length]
  rcases hp with ⟨_, h1⟩ | ⟨y, hy, h1, h2⟩
  · have := (h1.resolve_left (by omega)) y0 hy0
    rw [hf0] at this
    cases this
  · obtain ⟨hyl, hys⟩ := from_mem.1 hy
    have hgy := (hg y hyl).2.1
    obtain ⟨f1, f2⟩ := of_decide_eq_true h1
    refine ⟨y, hyl, hys, hne.trans h2, hgy.1, hgy.2, ?_⟩
    obtain ⟨c', e', hw, hc'⟩ := (rounds_ok hv hg n).1.2 y.dst.toNat (by omega) f1
    rw [Int.toNat_of_nonneg hgy.1] at hw
    -- the walk behind the edge is as good as can be
    have hstep : Wk (fromE (turnL l)) (v : Int) a (c' + y.wt) (e' + 1) := by
      have := hw.step (turn_in hyl)
      rw [show (turnE y).dst = a from hys] at this
      exact this
    unfold overE at f2
    have hc2 : gi (costsOf l n v) y.dst.toNat = c' * 128 + e' := hc'
    rw [hc2, hca] at f2
    have hsame := cost_same hgr hs hn hb hstep (by omega)
    rw [show c - y.wt = c' by omega, show e - 1 = e' by omega]
    refine ⟨hw, fun c2 e2 hw2 => ?_⟩
    have h5 := hw2.step (turn_in hyl)
    rw [show (turnE y).dst = a from hys] at h5
    have := hb.2 _ _ h5
    replace this : LL c e (c2 + y.wt) (e2 + 1) := this
    unfold LL at *
    omega
/-- the node after k steps -/
def nodeP (l : List Edge) (cs : List Int) (a : Int) : Nat → Int
  | 0 => a
  | k + 1 => nextP l cs (nodeP l cs a k)
/-- the path after k steps -/
def pathP (l : List Edge) (cs : List Int) (a : Int) : Nat → List Int
  | 0 => [a]
  | k + 1 => pathP l cs a k ++ [nodeP l cs a (k + 1)]
theorem pathP_len (l : List Edge) (cs : List Int) (a : Int) : ∀ k, (pathP l cs a k).length = k + 1
  | 0 => rfl
  | k + 1 => by rw [pathP, List.length_append, pathP_len l cs a k]; rfl
theorem gi_app_left {xs ys : List Int} {k : Nat} (h : k < xs.length) : gi (xs ++ ys) k = gi xs k := by
  rw [gi_eq (by rw [List.length_append]; omega), gi_eq h, List.getElem_append_left h]
theorem gi_app_one {xs : List Int} {x : Int} {k : Nat} (h : k = xs.length) : gi (xs ++ [x]) k = x := by
  subst h
  rw [gi_eq (by simp)]
  simp
theorem pathP_at (l : List Edge) (cs : List Int) (a : Int) : ∀ k i, i ≤ k → gi (pathP l cs a k) i = nodeP l cs a i
  | 0, i, h => by
    obtain rfl : i = 0 := by omega
    rfl
  | k + 1, i, h => by
    rw [pathP]
    by_cases e : i = k + 1
    · rw [gi_app_one (by rw [pathP_len]; exact e), e]
    · rw [gi_app_left (by rw [pathP_len]; omega), pathP_at l cs a k i (by omega)]
/-- the costs along the path -/
theorem node_best {l : List Edge} {n v : Nat} (hn : n ≤ 64) (hv : v < n) (hg : ∀ y ∈ l, GoodE (n : Int) y) {a c e : Int} (ha : 0 ≤ a ∧ a < n) (hb : Best (fromE (turnL l)) (v : Int) a c e) :
    ∀ k : Nat, (k : Int) ≤ e → (0 ≤ nodeP l (costsOf l n v) a k ∧ nodeP l (costsOf l n v) a k < n) ∧ ∃ c', Best (fromE (turnL l)) (v : Int) (nodeP l (costsOf l n v) a k) c' (e - k)
  | 0, _ => ⟨ha, c, by rw [show e - ((0 : Nat) : Int) = e by omega]; exact hb⟩
  | k + 1, hk => by
    obtain ⟨h1, c', h2⟩ := node_best hn hv hg ha hb k (by omega)
    obtain ⟨y, hy, h3, h4, h5, h6, h7⟩ := next_best hn hv hg h1 h2 (by omega)
    rw [nodeP, h4]
    exact ⟨⟨h5, h6⟩, _, by rw [show e - ((k + 1 : Nat) : Int) = e - (k : Int) - 1 by omega]; exact h7⟩
/-- a best walk is at its end exactly if it has no edges -/
theorem best_end {L : Int → List Edge} {n : Nat} (hg : Graph L n) {s a c e : Int} (hb : Best L s a c e) : a = s ↔ e = 0 := by
  constructor
  · intro h
    subst h
    have h1 := hb.2 _ _ .nil
    have h2 := (hb.1.len hg).1
    have h3 := hb.1.edges
    unfold LL at h1
    omega
  · intro h
    rcases wk_last hb.1 with ⟨h1, _⟩ | ⟨_, _, e', _, hw, _, _, _, h5⟩
    · exact h1
    · have := hw.edges
      omega
end Go.Proofs.Ytabhinmodnmllaa
