/-
  Distances in plain Lean: the triangle, and the walk along a path. By hand.
-/
import Derived.Test.YtabhinmodnmllaaSqJ
import Derived.Test.YtabhinmodnmllaaSqE
import Derived.Test.YtabhinmodnmllaaSqH
namespace Go.Proofs.Ytabhinmodnmllaa

section
variable {l : List Edge} {n : Nat}
theorem turn2 (l : List Edge) : fromE (turnL (turnL l)) = fromE l := by rw [turn_turn]
/-- a distance that is there is the length of a best walk -/
theorem dist_some (hn : n ≤ 64) (hg : ∀ y ∈ l, GoodE (n : Int) y) {i k : Nat} (hi : i < n) (hk : k < n) (h : 0 ≤ gi (distL l n i) k) : ∃ e, Best (fromE l) (i : Int) (k : Int) (gi (distL l n i) k) e := by
  unfold distL at h ⊢
  rw [gi_map (by rw [costs_len]; exact hk)] at h ⊢
  by_cases h0 : gi (costsOf (turnL l) n i) k < 0
  · rw [if_pos h0] at h
    omega
  · rw [if_neg h0]
    have hgr : Graph (fromE (turnL (turnL l))) n := good_graph (turn_good (turn_good hg))
    obtain ⟨c, e, hb⟩ := best_ex hgr ⟨by omega, by omega⟩ hn (turn_good hg) hi hk h0
    have h1 := costs_best hn hi (turn_good hg) hk hb hgr
    have h2 := best_short hgr ⟨by omega, by omega⟩ hb
    have h3 := hb.1.edges
    rw [h1, show (c * 128 + e) / 128 = c by omega]
    rw [turn2] at hb
    exact ⟨e, hb⟩
/-- a walk bounds the distance -/
theorem dist_le (hn : n ≤ 64) (hg : ∀ y ∈ l, GoodE (n : Int) y) {i k : Nat} (hi : i < n) (hk : k < n) {c e : Int} (hw : Wk (fromE l) (i : Int) (k : Int) c e) : 0 ≤ gi (distL l n i) k ∧ gi (distL l n i) k ≤ c := by
  have hgr : Graph (fromE (turnL (turnL l))) n := good_graph (turn_good (turn_good hg))
  have hw' : Wk (fromE (turnL (turnL l))) (i : Int) (k : Int) c e := by rw [turn2]; exact hw
  obtain ⟨c', e', hb⟩ := hw'.best_ex hgr
  have h1 := costs_best hn hi (turn_good hg) hk hb hgr
  have h2 := best_short hgr ⟨by omega, by omega⟩ hb
  have h3 := hb.1.edges
  have h4 := (hb.1.len hgr).1
  have h5 := hb.2 _ _ hw'
  unfold LL at h5
  unfold distL
  rw [gi_map (by rw [costs_len]; exact hk), h1, if_neg (by omega)]
  omega
theorem dist_low (hg : ∀ y ∈ l, GoodE (n : Int) y) (hm : l.length ≤ 500) {i k : Nat} (hi : i < n) (hk : k < n) : -1 ≤ gi (distL l n i) k := by
  unfold distL
  rw [gi_map (by rw [costs_len]; exact hk)]
  have := costs_low hi (turn_good hg) (by rw [turnL_len]; exact hm) k
  split <;> omega
theorem dist_high (hn : n ≤ 64) (hg : ∀ y ∈ l, GoodE (n : Int) y) {i k : Nat} (hi : i < n) (hk : k < n) : gi (distL l n i) k ≤ 68719476736 := by
  by_cases h : 0 ≤ gi (distL l n i) k
  · obtain ⟨e, hb⟩ := dist_some hn hg hi hk h
    have h1 := best_short (good_graph hg) ⟨by omega, by omega⟩ hb
    have h2 := (hb.1.len (good_graph hg)).2
    omega
  · omega
theorem tri_self (hn : n ≤ 64) (hg : ∀ y ∈ l, GoodE (n : Int) y) {i : Nat} (hi : i < n) : gi (distL l n i) i = 0 := by
  have := dist_le hn hg hi hi .nil
  omega
theorem tri_edge (hn : n ≤ 64) (hg : ∀ y ∈ l, GoodE (n : Int) y) {s d : Nat} {wt : Int} (hy : (⟨(s : Int), (d : Int), wt⟩ : Edge) ∈ l) (hs : s < n) (hd : d < n) : 0 ≤ gi (distL l n s) d ∧ gi (distL l n s) d ≤ wt :=
  dist_le hn hg hs hd (wk_one (from_mem.2 ⟨hy, rfl⟩))
theorem tri_sum (hn : n ≤ 64) (hg : ∀ y ∈ l, GoodE (n : Int) y) {i k m : Nat} (hi : i < n) (hk : k < n) (hm : m < n) (h1 : 0 ≤ gi (distL l n i) k) (h2 : 0 ≤ gi (distL l n k) m) : 0 ≤ gi (distL l n i) m ∧ gi (distL l n i) m ≤ gi (distL l n i) k + gi (distL l n k) m := by
  obtain ⟨e, hb⟩ := dist_some hn hg hi hk h1
  obtain ⟨e', hb'⟩ := dist_some hn hg hk hm h2
  exact dist_le hn hg hi hm (wk_trans hb.1 hb'.1)
/-- a best walk read backwards -/
theorem best_rev {a b c e : Int} (h : Best (fromE (turnL l)) b a c e) : Best (fromE l) a b c e := by
  refine ⟨?_, fun c' e' hw => h.2 _ _ (wk_rev hw)⟩
  have := wk_rev h.1
  rw [turn2] at this
  exact this
/-- the length of the path is the distance -/
theorem path_dist (hn : n ≤ 64) (hg : ∀ y ∈ l, GoodE (n : Int) y) {a b : Nat} (ha : a < n) (hb : b < n) {c e : Int} (h : Best (fromE (turnL l)) (b : Int) (a : Int) c e) : gi (distL l n a) b = c := by
  have h1 := best_rev h
  have h2 := dist_le hn hg ha hb h1.1
  obtain ⟨e', h3⟩ := dist_some hn hg ha hb h2.1
  exact (h3.uniq h1).1
theorem path_none (hn : n ≤ 64) (hg : ∀ y ∈ l, GoodE (n : Int) y) (hm : l.length ≤ 500) {a b : Nat} (ha : a < n) (hb : b < n) (h : gi (costsOf l n b) a < 0) : gi (distL l n a) b = -1 := by
  have h1 := dist_low hg hm ha hb
  by_cases h0 : 0 ≤ gi (distL l n a) b
  · obtain ⟨e, h3⟩ := dist_some hn hg ha hb h0
    have hw := wk_rev h3.1
    have hgr : Graph (fromE (turnL l)) n := good_graph (turn_good hg)
    obtain ⟨c, e, hbt⟩ := hw.best_ex hgr
    have h4 := costs_best hn hb hg ha hbt hgr
    have h5 := (hbt.1.len hgr).1
    have h6 := hbt.1.edges
    omega
  · omega
end
/-- the least weight after k edges -/
def leastE (a b : Int) (w : Int) (y : Edge) : Int := if y.src = a ∧ y.dst = b ∧ (w < 0 ∨ y.wt < w) then y.wt else w
def leastTo (l : List Edge) (a b : Int) (k : Nat) : Int := (l.take k).foldl (leastE a b) (-1)
theorem leastTo_step {l : List Edge} {k : Nat} (hk : k < l.length) (a b : Int) : leastTo l a b (k + 1) = leastE a b (leastTo l a b k) (ge l k) := by
  unfold leastTo
  rw [edgeC.g_take hk, List.foldl_append]
  rfl
def leastL (l : List Edge) (a b : Int) : Int := leastTo l a b l.length
theorem least_fold (a b : Int) : ∀ (l : List Edge) (w : Int), (∀ y ∈ l, 0 ≤ y.wt) → (w = -1 ∨ 0 ≤ w) →
    ((l.foldl (leastE a b) w = w ∨ ∃ y ∈ l, y.src = a ∧ y.dst = b ∧ l.foldl (leastE a b) w = y.wt) ∧ (0 ≤ w → l.foldl (leastE a b) w ≤ w) ∧ ∀ y ∈ l, y.src = a → y.dst = b → 0 ≤ l.foldl (leastE a b) w ∧ l.foldl (leastE a b) w ≤ y.wt)
  | [], w, _, _ => ⟨.inl rfl, fun _ => Int.le_refl _, fun y hy => absurd hy (List.not_mem_nil)⟩
  | z :: t, w, hg, hw => by
    have hz := hg z List.mem_cons_self
    have hgt : ∀ y ∈ t, 0 ≤ y.wt := fun y hy => hg y (List.mem_cons_of_mem _ hy)
    rw [List.foldl_cons]
    by_cases e : z.src = a ∧ z.dst = b ∧ (w < 0 ∨ z.wt < w)
    · rw [show leastE a b w z = z.wt from if_pos e]
      obtain ⟨h1, h2, h3⟩ := least_fold a b t z.wt hgt (.inr hz)
      have h4 := h2 hz
      refine ⟨.inr ?_, fun h => by omega, fun y hy h5 h6 => ?_⟩
      · rcases h1 with h1 | ⟨y, hy, h7⟩
        · exact ⟨z, List.mem_cons_self, e.1, e.2.1, h1⟩
        · exact ⟨y, List.mem_cons_of_mem _ hy, h7⟩
      · rcases List.mem_cons.1 hy with rfl | hy
        · refine ⟨?_, h4⟩
          rcases h1 with h1 | ⟨y2, hy2, _, _, h7⟩
          · omega
          · have := hgt y2 hy2; omega
        · exact h3 y hy h5 h6
    · rw [show leastE a b w z = w from if_neg e]
      obtain ⟨h1, h2, h3⟩ := least_fold a b t w hgt hw
      refine ⟨?_, h2, fun y hy h5 h6 => ?_⟩
      · rcases h1 with h1 | ⟨y, hy, h7⟩
        · exact .inl h1
        · exact .inr ⟨y, List.mem_cons_of_mem _ hy, h7⟩
      · rcases List.mem_cons.1 hy with rfl | hy
        · have hw0 : 0 ≤ w := by
            by_cases h : w < 0
            · exact absurd ⟨h5, h6, .inl h⟩ e
            · omega
          have hwz : w ≤ y.wt := by
            by_cases h : y.wt < w
            · exact absurd ⟨h5, h6, .inr h⟩ e
            · omega
          have := h2 hw0
          refine ⟨?_, by omega⟩
          rcases h1 with h1 | ⟨y2, hy2, _, _, h7⟩
          · omega
          · have := hgt y2 hy2; omega
        · exact h3 y hy h5 h6
theorem least_of {l : List Edge} (hg : ∀ y ∈ l, 0 ≤ y.wt) {y : Edge} (hy : y ∈ l) : (0 ≤ leastL l y.src y.dst ∧ leastL l y.src y.dst ≤ y.wt) ∧ ∃ z ∈ l, z.src = y.src ∧ z.dst = y.dst ∧ leastL l y.src y.dst = z.wt := by
  have he : leastL l y.src y.dst = l.foldl (leastE y.src y.dst) (-1) := by
    unfold leastL leastTo
    rw [List.take_length]
  obtain ⟨h1, _, h3⟩ := least_fold y.src y.dst l (-1) hg (.inl rfl)
  have h4 := h3 y hy rfl rfl
  rw [he]
  refine ⟨h4, ?_⟩
  rcases h1 with h1 | h1
  · omega
  · exact h1
/-- the cost that is left at each node of the path falls by the least weight -/
theorem walk_step {l : List Edge} {n b : Nat} (hn : n ≤ 64) (hb : b < n) (hg : ∀ y ∈ l, GoodE (n : Int) y) {a c e : Int} (ha : 0 ≤ a ∧ a < n) (h : Best (fromE (turnL l)) (b : Int) a c e) (he : 0 < e) :
    ∃ c', Best (fromE (turnL l)) (b : Int) (nextP l (costsOf l n b) a) c' (e - 1) ∧ leastL l a (nextP l (costsOf l n b) a) = c - c' ∧ 0 ≤ c - c' ∧ c - c' ≤ 1073741824 ∧ 0 ≤ nextP l (costsOf l n b) a ∧ nextP l (costsOf l n b) a < n := by
  obtain ⟨y, hy, h1, h2, h3, h4, h5⟩ := next_best hn hb hg ha h he
  obtain ⟨⟨k1, k2⟩, z, hz, k3, k4, k5⟩ := least_of (fun y hy => (hg y hy).2.2.1) hy
  rw [h2]
  refine ⟨c - y.wt, h5, ?_, ?_, ?_, h3, h4⟩
  · rw [← h1]
    have hw := h5.1.step (show turnE z ∈ fromE (turnL l) y.dst by rw [← k4]; exact turn_in hz)
    have hw2 : Wk (fromE (turnL l)) (b : Int) a (c - y.wt + z.wt) (e - 1 + 1) := by
      have e1 : (turnE z).dst = a := by show z.src = a; rw [k3, h1]
      rw [e1] at hw
      exact hw
    have h6 := h.2 _ _ hw2
    unfold LL at h6
    omega
  · have := (hg y hy).2.2.1; omega
  · have := (hg y hy).2.2.2; omega
/-- what the walk along the path needs at node i -/
theorem walk_facts {l : List Edge} {n a b : Nat} (hn : n ≤ 64) (ha : a < n) (hb : b < n) (hg : ∀ y ∈ l, GoodE (n : Int) y) (hc : ¬ gi (costsOf l n b) a < 0) :
    ∃ (E : Nat) (c : Int) (C : Nat → Int), E < n ∧ pathL l n a b = pathP l (costsOf l n b) (a : Int) E ∧ gi (costsOf l n b) a / 128 = c ∧ gi (distL l n a) b = c ∧ 0 ≤ c ∧ c ≤ 68719476736 ∧ C 0 = c ∧ C E = 0 ∧
      nodeP l (costsOf l n b) (a : Int) E = (b : Int) ∧
      (∀ i, i ≤ E → 0 ≤ C i ∧ C i ≤ c) ∧
      (∀ i, i < E → leastL l (nodeP l (costsOf l n b) (a : Int) i) (nodeP l (costsOf l n b) (a : Int) (i + 1)) = C i - C (i + 1) ∧ 0 ≤ C i - C (i + 1)) ∧
      (∀ i k, i ≤ E → k < i → nodeP l (costsOf l n b) (a : Int) i ≠ nodeP l (costsOf l n b) (a : Int) k) := by
  have hgr : Graph (fromE (turnL l)) n := good_graph (turn_good hg)
  obtain ⟨E, h1, h2, ⟨c, h3, h4⟩, h5⟩ := path_facts hn ha hb hg hc
  have hnode := node_best hn hb hg ⟨by omega, by omega⟩ h3
  have hC : ∀ i : Nat, ∃ x : Int, i ≤ E → Best (fromE (turnL l)) (b : Int) (nodeP l (costsOf l n b) (a : Int) i) x ((E : Int) - i) := fun i => by
    by_cases hi : i ≤ E
    · obtain ⟨_, c', h⟩ := hnode i (by omega)
      exact ⟨c', fun _ => h⟩
    · exact ⟨0, fun h => absurd h hi⟩
  obtain ⟨C, hCs⟩ : ∃ C : Nat → Int, ∀ i : Nat, i ≤ E → Best (fromE (turnL l)) (b : Int) (nodeP l (costsOf l n b) (a : Int) i) (C i) ((E : Int) - i) := ⟨fun i => (hC i).choose, fun i hi => (hC i).choose_spec hi⟩
  clear hC
  have hstep : ∀ i, i < E → leastL l (nodeP l (costsOf l n b) (a : Int) i) (nodeP l (costsOf l n b) (a : Int) (i + 1)) = C i - C (i + 1) ∧ 0 ≤ C i - C (i + 1) := fun i hi => by
    obtain ⟨k1, _⟩ := hnode i (by omega)
    obtain ⟨c', k2, k3, k4, _⟩ := walk_step hn hb hg k1 (hCs i (by omega)) (by omega)
    have k5 := hCs (i + 1) (by omega)
    have k7 : Best (fromE (turnL l)) (b : Int) (nodeP l (costsOf l n b) (a : Int) (i + 1)) c' ((E : Int) - (i : Int) - 1) := k2
    have k6 := (k5.uniq k7).1
    rw [k6]
    exact ⟨k3, k4⟩
  have h30 : Best (fromE (turnL l)) (b : Int) (nodeP l (costsOf l n b) (a : Int) 0) c ((E : Int) - ((0 : Nat) : Int)) := by
    rw [show (E : Int) - ((0 : Nat) : Int) = (E : Int) by omega]
    exact h3
  have h0 : C 0 = c := ((hCs 0 (by omega)).uniq h30).1
  have hcb := (h3.1.len hgr)
  refine ⟨E, c, C, h1, by unfold pathL; rw [h2], h4, path_dist hn hg ha hb h3, hcb.1, by omega, h0, ?_, ?_, ?_, hstep, ?_⟩
  · have h6 := hCs E (Nat.le_refl _)
    have h7 := (h6.1.len hgr)
    omega
  · obtain ⟨t, k1, _, k3⟩ := h5 E (Nat.le_refl _)
    rw [k1, k3.2 rfl]
  · intro i hi
    refine ⟨((hCs i hi).1.len hgr).1, ?_⟩
    induction i with
    | zero => rw [h0]; exact Int.le_refl _
    | succ i ih =>
      have k1 := ih (by omega)
      have k2 := (hstep i (by omega)).2
      omega
  · intro i k hi hk e
    have k1 := hCs i hi
    have k2 := hCs k (by omega)
    rw [e] at k1
    have := (k1.uniq k2).2
    omega
end Go.Proofs.Ytabhinmodnmllaa
