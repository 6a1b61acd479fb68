/-
  Components in plain Lean: linked nodes, roots, least numbers. By hand.
-/
import Derived.Test.YtabhinmodnmllaaSqF
namespace Go.Proofs.Ytabhinmodnmllaa

theorem wk_one {L : Int → List Edge} {v : Int} {y : Edge} (hy : y ∈ L v) : Wk L v y.dst y.wt 1 := by
  have := (Wk.nil (L := L) (s := v)).step hy
  simpa using this
theorem wk_trans {L : Int → List Edge} {a b d c e c' e' : Int} (h : Wk L a b c e) (h2 : Wk L b d c' e') : Wk L a d (c + c') (e + e') := by
  induction h2 with
  | nil => simpa using h
  | step hw hy ih =>
    have := ih.step hy
    rw [Int.add_assoc, Int.add_assoc] at this
    exact this
theorem wk_mono {L L' : Int → List Edge} (hL : ∀ v y, y ∈ L v → y ∈ L' v) {a b c e : Int} (h : Wk L a b c e) : Wk L' a b c e := by
  induction h with
  | nil => exact .nil
  | step hw hy ih => exact ih.step (hL _ _ hy)
theorem wk_rev {l : List Edge} {s v c e : Int} (h : Wk (fromE l) s v c e) : Wk (fromE (turnL l)) v s c e := by
  induction h with
  | nil => exact .nil
  | step hw hy ih =>
    rename_i v c e y
    obtain ⟨hyl, hys⟩ := from_mem.1 hy
    have h1 := wk_one (turn_in hyl)
    rw [show (turnE y).dst = v from hys] at h1
    have h2 := wk_trans h1 ih
    rw [show c + y.wt = (turnE y).wt + c from Int.add_comm _ _, show e + 1 = 1 + e from Int.add_comm _ _]
    exact h2
/-- the edges in both directions -/
def bothE (l : List Edge) : List Edge := l ++ turnL l
theorem both_turn (l : List Edge) (v : Int) (y : Edge) : y ∈ fromE (turnL (bothE l)) v → y ∈ fromE (bothE l) v := by
  rw [from_mem, from_mem]
  rintro ⟨h1, h2⟩
  refine ⟨?_, h2⟩
  unfold bothE at *
  rw [show turnL (l ++ turnL l) = turnL l ++ turnL (turnL l) from List.map_append, turn_turn] at h1
  rcases List.mem_append.1 h1 with h | h
  · exact List.mem_append_right _ h
  · exact List.mem_append_left _ h
/-- there is a way between two nodes, edges taken in any direction -/
def Linked (l : List Edge) (a b : Int) : Prop := ∃ c e, Wk (fromE (bothE l)) a b c e
theorem Linked.refl (l : List Edge) (a : Int) : Linked l a a := ⟨0, 0, .nil⟩
theorem Linked.symm {l : List Edge} {a b : Int} (h : Linked l a b) : Linked l b a := by
  obtain ⟨c, e, h⟩ := h
  exact ⟨c, e, wk_mono (both_turn l) (wk_rev h)⟩
theorem Linked.trans {l : List Edge} {a b d : Int} (h : Linked l a b) (h2 : Linked l b d) : Linked l a d := by
  obtain ⟨c, e, h⟩ := h
  obtain ⟨c', e', h2⟩ := h2
  exact ⟨_, _, wk_trans h h2⟩
theorem Linked.edge {l : List Edge} {y : Edge} (hy : y ∈ l) : Linked l y.src y.dst := ⟨_, _, wk_one (from_mem.2 ⟨List.mem_append_left _ hy, rfl⟩)⟩
theorem both_good {n : Int} {l : List Edge} (hg : ∀ y ∈ l, GoodE n y) : ∀ y ∈ bothE l, GoodE n y := fun y hy => by
  rcases List.mem_append.1 hy with h | h
  · exact hg y h
  · exact turn_good hg y h
/-- every number by itself -/
def idL (n : Nat) : List Int := (List.range n).map fun (i : Nat) => (i : Int)
theorem idL_len (n : Nat) : (idL n).length = n := by simp [idL]
theorem idL_at {n i : Nat} (h : i < n) : gi (idL n) i = (i : Int) := by
  rw [gi_eq (by rw [idL_len]; exact h)]
  simp [idL]
/-- the roots of two nodes become one -/
def joinR (rs : List Int) (y : Edge) : List Int := rs.map fun r => if r = max (gi rs y.src.toNat) (gi rs y.dst.toNat) then min (gi rs y.src.toNat) (gi rs y.dst.toNat) else r
def rootTo (l : List Edge) (n k : Nat) : List Int := (l.take k).foldl joinR (idL n)
theorem rootTo_step {l : List Edge} {n k : Nat} (hk : k < l.length) : rootTo l n (k + 1) = joinR (rootTo l n k) (ge l k) := by
  unfold rootTo
  rw [edgeC.g_take hk, List.foldl_append]
  rfl
theorem joinR_len (rs : List Int) (y : Edge) : (joinR rs y).length = rs.length := by simp [joinR]
theorem joinR_at {rs : List Int} {i : Nat} (h : i < rs.length) (y : Edge) : gi (joinR rs y) i = if gi rs i = max (gi rs y.src.toNat) (gi rs y.dst.toNat) then min (gi rs y.src.toNat) (gi rs y.dst.toNat) else gi rs i := gi_map h
theorem rootTo_len (l : List Edge) (n : Nat) : ∀ k, k ≤ l.length → (rootTo l n k).length = n
  | 0, _ => idL_len n
  | k + 1, h => by rw [rootTo_step (by omega), joinR_len, rootTo_len l n k (by omega)]
/-- what the roots are after k edges -/
structure RootsOk (l : List Edge) (n : Nat) (rs : List Int) (k : Nat) : Prop where
  lo : ∀ i, i < n → 0 ≤ gi rs i ∧ gi rs i ≤ (i : Int)
  link : ∀ i, i < n → Linked l (i : Int) (gi rs i)
  same : ∀ j, j < k → gi rs (ge l j).src.toNat = gi rs (ge l j).dst.toNat
theorem roots_ok {l : List Edge} {n : Nat} (hg : ∀ y ∈ l, GoodE (n : Int) y) : ∀ k, k ≤ l.length → RootsOk l n (rootTo l n k) k
  | 0, _ => ⟨fun i hi => by rw [rootTo, List.take_zero, List.foldl_nil, idL_at hi]; omega, fun i hi => by rw [rootTo, List.take_zero, List.foldl_nil, idL_at hi]; exact Linked.refl _ _, fun j hj => absurd hj (by omega)⟩
  | k + 1, hk => by
    have ih := roots_ok hg k (by omega)
    have hl := rootTo_len l n k (by omega)
    rw [rootTo_step (by omega)]
    obtain ⟨rs, hrs⟩ : ∃ rs, rs = rootTo l n k := ⟨_, rfl⟩
    rw [← hrs] at ih hl ⊢
    obtain ⟨y, hy⟩ : ∃ y, y = ge l k := ⟨_, rfl⟩
    have hym : y ∈ l := by rw [hy]; exact ge_mem (by omega)
    rw [← hy]
    obtain ⟨⟨a0, a1⟩, ⟨b0, b1⟩, _⟩ := hg y hym
    have hA := ih.lo y.src.toNat (by omega)
    have hB := ih.lo y.dst.toNat (by omega)
    have hLA := ih.link y.src.toNat (by omega)
    have hLB := ih.link y.dst.toNat (by omega)
    rw [Int.toNat_of_nonneg a0] at hLA
    rw [Int.toNat_of_nonneg b0] at hLB
    have hLE := Linked.edge hym
    refine ⟨fun i hi => ?_, fun i hi => ?_, fun j hj => ?_⟩
    · rw [joinR_at (by omega)]
      have := ih.lo i hi
      split <;> omega
    · rw [joinR_at (by omega)]
      have h1 := ih.link i hi
      split
      · rename_i h2
        rw [h2] at h1
        refine h1.trans ?_
        have hAB := (hLA.symm.trans hLE).trans hLB
        rcases Int.le_total (gi rs y.src.toNat) (gi rs y.dst.toNat) with h3 | h3
        · rw [Int.max_eq_right h3, Int.min_eq_left h3]
          exact hAB.symm
        · rw [Int.max_eq_left h3, Int.min_eq_right h3]
          exact hAB
      · exact h1
    · by_cases e : j = k
      · subst e
        rw [← hy, joinR_at (by omega), joinR_at (by omega)]
        split <;> split <;> omega
      · have h1 := ih.same j (by omega)
        obtain ⟨⟨c0, c1⟩, ⟨d0, d1⟩, _⟩ := hg _ (ge_mem (by omega : j < l.length))
        rw [joinR_at (by omega), joinR_at (by omega), h1]
def rootsL (l : List Edge) (n : Nat) : List Int := rootTo l n l.length
/-- linked nodes have the same root -/
theorem roots_same {l : List Edge} {n : Nat} (hg : ∀ y ∈ l, GoodE (n : Int) y) {a b c e : Int} (h : Wk (fromE (bothE l)) a b c e) (ha : 0 ≤ a ∧ a < n) : (0 ≤ b ∧ b < n) ∧ gi (rootsL l n) b.toNat = gi (rootsL l n) a.toNat := by
  have hok := roots_ok hg l.length (Nat.le_refl _)
  induction h with
  | nil => exact ⟨ha, rfl⟩
  | step hw hy ih =>
    rename_i v c e y
    obtain ⟨h1, h2⟩ := ih
    obtain ⟨hyb, hys⟩ := from_mem.1 hy
    obtain ⟨_, hyd, _⟩ := both_good hg y hyb
    refine ⟨hyd, h2 ▸ ?_⟩
    rcases List.mem_append.1 hyb with hyl | hyl
    · obtain ⟨j, hj, hje⟩ := mem_ge hyl
      have := hok.same j hj
      rw [hje, hys] at this
      exact this.symm
    · obtain ⟨z, hz, rfl⟩ := List.mem_map.1 hyl
      obtain ⟨j, hj, hje⟩ := mem_ge hz
      have := hok.same j hj
      rw [hje, show z.dst = v from hys] at this
      exact this
theorem roots_least {l : List Edge} {n : Nat} (hg : ∀ y ∈ l, GoodE (n : Int) y) {i : Nat} (hi : i < n) : Linked l (i : Int) (gi (rootsL l n) i) ∧ ∀ j : Int, Linked l (i : Int) j → gi (rootsL l n) i ≤ j := by
  have hok := roots_ok hg l.length (Nat.le_refl _)
  refine ⟨hok.link i hi, fun j hj => ?_⟩
  obtain ⟨c, e, h⟩ := hj
  obtain ⟨h1, h2⟩ := roots_same hg h ⟨by omega, by omega⟩
  rw [Int.toNat_natCast] at h2
  have := hok.lo j.toNat (by omega)
  unfold rootsL at h2 ⊢
  omega
/-- the reference: both ends of an edge get the lesser number -/
def minE (fs : List Int) (y : Edge) : List Int := if gi fs y.src.toNat < gi fs y.dst.toNat then fs.set y.dst.toNat (gi fs y.src.toNat) else fs.set y.src.toNat (gi fs y.dst.toNat)
def minTo (l : List Edge) (fs : List Int) (k : Nat) : List Int := (l.take k).foldl minE fs
def minRounds (l : List Edge) (fs : List Int) : Nat → List Int
  | 0 => fs
  | r + 1 => minTo l (minRounds l fs r) l.length
theorem minTo_step {l : List Edge} {k : Nat} (hk : k < l.length) (fs : List Int) : minTo l fs (k + 1) = minE (minTo l fs k) (ge l k) := by
  unfold minTo
  rw [edgeC.g_take hk, List.foldl_append]
  rfl
theorem minE_len (fs : List Int) (y : Edge) : (minE fs y).length = fs.length := by
  unfold minE
  split <;> rw [List.length_set]
theorem minTo_len (l : List Edge) (fs : List Int) : ∀ k, k ≤ l.length → (minTo l fs k).length = fs.length
  | 0, _ => rfl
  | k + 1, h => by rw [minTo_step (by omega), minE_len, minTo_len l fs k (by omega)]
theorem minRounds_len (l : List Edge) (fs : List Int) : ∀ r, (minRounds l fs r).length = fs.length
  | 0 => rfl
  | r + 1 => by rw [minRounds, minTo_len _ _ _ (Nat.le_refl _), minRounds_len l fs r]
theorem minE_at {fs : List Int} {n : Nat} (hl : fs.length = n) {y : Edge} (hg : GoodE (n : Int) y) (i : Nat) : gi (minE fs y) i = if (i : Int) = y.src ∨ (i : Int) = y.dst then min (gi fs y.src.toNat) (gi fs y.dst.toNat) else gi fs i := by
  obtain ⟨⟨a0, a1⟩, ⟨b0, b1⟩, _⟩ := hg
  unfold minE
  split
  · rename_i h
    rw [gi_put (by omega)]
    by_cases e : i = y.dst.toNat
    · rw [if_pos e, if_pos (.inr (by omega))]; omega
    · rw [if_neg e]
      by_cases e2 : i = y.src.toNat
      · rw [if_pos (.inl (by omega)), e2]; omega
      · rw [if_neg (by omega)]
  · rename_i h
    rw [gi_put (by omega)]
    by_cases e : i = y.src.toNat
    · rw [if_pos e, if_pos (.inl (by omega))]; omega
    · rw [if_neg e]
      by_cases e2 : i = y.dst.toNat
      · rw [if_pos (.inr (by omega)), e2]; omega
      · rw [if_neg (by omega)]
/-- the numbers only fall, and stay linked -/
structure MinOk (l : List Edge) (n : Nat) (fs : List Int) : Prop where
  len : fs.length = n
  lo : ∀ i, i < n → 0 ≤ gi fs i ∧ gi fs i ≤ (i : Int)
  link : ∀ i, i < n → Linked l (i : Int) (gi fs i)
theorem MinOk.start (l : List Edge) (n : Nat) : MinOk l n (idL n) := ⟨idL_len n, fun i hi => by rw [idL_at hi]; omega, fun i hi => by rw [idL_at hi]; exact Linked.refl _ _⟩
theorem MinOk.step {l : List Edge} {n : Nat} {fs : List Int} (h : MinOk l n fs) {y : Edge} (hy : y ∈ l) (hg : GoodE (n : Int) y) : MinOk l n (minE fs y) := by
  have hg' := hg
  obtain ⟨⟨a0, a1⟩, ⟨b0, b1⟩, _⟩ := hg
  have hA := h.lo y.src.toNat (by omega)
  have hB := h.lo y.dst.toNat (by omega)
  have hLA := h.link y.src.toNat (by omega)
  have hLB := h.link y.dst.toNat (by omega)
  rw [Int.toNat_of_nonneg a0] at hLA
  rw [Int.toNat_of_nonneg b0] at hLB
  have hLE := Linked.edge hy
  refine ⟨by rw [minE_len]; exact h.len, fun i hi => ?_, fun i hi => ?_⟩
  · rw [minE_at h.len hg']
    have := h.lo i hi
    split <;> omega
  · rw [minE_at h.len hg']
    split
    · rename_i h2
      have hm : Linked l y.src (min (gi fs y.src.toNat) (gi fs y.dst.toNat)) := by
        rcases Int.le_total (gi fs y.src.toNat) (gi fs y.dst.toNat) with h3 | h3
        · rw [Int.min_eq_left h3]; exact hLA
        · rw [Int.min_eq_right h3]; exact hLE.trans hLB
      rcases h2 with h2 | h2
      · rw [h2]; exact hm
      · rw [h2]; exact hLE.symm.trans hm
    · exact h.link i hi
theorem MinOk.to {l : List Edge} {n : Nat} (hg : ∀ y ∈ l, GoodE (n : Int) y) {fs : List Int} (h : MinOk l n fs) : ∀ k, k ≤ l.length → MinOk l n (minTo l fs k)
  | 0, _ => h
  | k + 1, hk => by
    rw [minTo_step (by omega)]
    exact (MinOk.to hg h k (by omega)).step (ge_mem (by omega)) (hg _ (ge_mem (by omega)))
theorem MinOk.rounds {l : List Edge} {n : Nat} (hg : ∀ y ∈ l, GoodE (n : Int) y) : ∀ r, MinOk l n (minRounds l (idL n) r)
  | 0 => MinOk.start l n
  | r + 1 => (MinOk.rounds hg r).to hg _ (Nat.le_refl _)
theorem minTo_le {l : List Edge} {n : Nat} (hg : ∀ y ∈ l, GoodE (n : Int) y) {fs : List Int} (hl : fs.length = n) {i j : Nat} (hij : i ≤ j) : j ≤ l.length → ∀ u : Nat, gi (minTo l fs j) u ≤ gi (minTo l fs i) u := by
  induction j with
  | zero =>
    intro _ u
    obtain rfl : i = 0 := by omega
    exact Int.le_refl _
  | succ j ih =>
    intro hj u
    by_cases e : i = j + 1
    · subst e; exact Int.le_refl _
    · have h1 := ih (by omega) (by omega) u
      rw [minTo_step (by omega), minE_at (by rw [minTo_len _ _ _ (by omega)]; exact hl) (hg _ (ge_mem (by omega)))]
      split
      · rename_i h2
        obtain ⟨⟨a0, a1⟩, ⟨b0, b1⟩, _⟩ := hg _ (ge_mem (by omega : j < l.length))
        rcases h2 with h2 | h2
        · rw [show u = (ge l j).src.toNat by omega] at h1 ⊢
          omega
        · rw [show u = (ge l j).dst.toNat by omega] at h1 ⊢
          omega
      · exact h1
/-- after a round, the ends of an edge are at most what they were -/
theorem min_new {l : List Edge} {n : Nat} (hg : ∀ y ∈ l, GoodE (n : Int) y) {fs : List Int} (hl : fs.length = n) {y : Edge} (hy : y ∈ l) : gi (minTo l fs l.length) y.src.toNat ≤ gi fs y.dst.toNat ∧ gi (minTo l fs l.length) y.dst.toNat ≤ gi fs y.src.toNat := by
  obtain ⟨k, hk, rfl⟩ := mem_ge hy
  obtain ⟨⟨a0, a1⟩, ⟨b0, b1⟩, _⟩ := hg _ hy
  have h1 := minTo_le hg hl (show 0 ≤ k by omega) (by omega) (ge l k).src.toNat
  have h2 := minTo_le hg hl (show 0 ≤ k by omega) (by omega) (ge l k).dst.toNat
  have h3 := minTo_le hg hl (show k + 1 ≤ l.length by omega) (Nat.le_refl _) (ge l k).src.toNat
  have h4 := minTo_le hg hl (show k + 1 ≤ l.length by omega) (Nat.le_refl _) (ge l k).dst.toNat
  rw [minTo_step hk, minE_at (by rw [minTo_len _ _ _ (by omega)]; exact hl) (hg _ hy), if_pos (.inl (by omega))] at h3
  rw [minTo_step hk, minE_at (by rw [minTo_len _ _ _ (by omega)]; exact hl) (hg _ hy), if_pos (.inr (by omega))] at h4
  rw [show minTo l fs 0 = fs from rfl] at h1 h2
  omega
theorem min_full {l : List Edge} {n : Nat} (hg : ∀ y ∈ l, GoodE (n : Int) y) : ∀ r : Nat, ∀ a b c e : Int, Wk (fromE (bothE l)) a b c e → (0 ≤ a ∧ a < n) → e ≤ (r : Int) → (0 ≤ b ∧ b < n) ∧ gi (minRounds l (idL n) r) b.toNat ≤ a
  | 0, a, b, c, e, hw, ha, he => by
    rcases wk_last hw with ⟨rfl, _, _⟩ | ⟨_, _, e', _, hw', _, _, _, h5⟩
    · refine ⟨ha, ?_⟩
      rw [minRounds, idL_at (by omega)]
      omega
    · have := hw'.edges
      omega
  | r + 1, a, b, c, e, hw, ha, he => by
    have hl : (minRounds l (idL n) r).length = n := by rw [minRounds_len, idL_len]
    rcases wk_last hw with ⟨rfl, _, _⟩ | ⟨u, c', e', y, hw', hy, rfl, _, rfl⟩
    · refine ⟨ha, ?_⟩
      have := ((MinOk.rounds hg (r + 1)).lo b.toNat (by omega)).2
      omega
    · obtain ⟨h1, h2⟩ := min_full hg r a u c' e' hw' ha (by omega)
      obtain ⟨hyb, hys⟩ := from_mem.1 hy
      obtain ⟨_, hyd, _⟩ := both_good hg y hyb
      refine ⟨hyd, ?_⟩
      rw [minRounds]
      rcases List.mem_append.1 hyb with hyl | hyl
      · have := (min_new hg hl hyl).2
        rw [hys] at this
        omega
      · obtain ⟨z, hz, rfl⟩ := List.mem_map.1 hyl
        have := (min_new hg hl hz).1
        rw [show z.dst = u from hys] at this
        show gi _ z.src.toNat ≤ a
        omega
theorem min_least {l : List Edge} {n : Nat} (hg : ∀ y ∈ l, GoodE (n : Int) y) {i : Nat} (hi : i < n) : Linked l (i : Int) (gi (minRounds l (idL n) n) i) ∧ ∀ j : Int, (0 ≤ j ∧ j < n) → Linked l (i : Int) j → gi (minRounds l (idL n) n) i ≤ j := by
  refine ⟨(MinOk.rounds hg n).link i hi, fun j hj h => ?_⟩
  obtain ⟨c, e, hw⟩ := h.symm
  have hgr : Graph (fromE (bothE l)) n := good_graph (both_good hg)
  obtain ⟨c, e, hb⟩ := hw.best_ex hgr
  have h1 := best_short hgr hj hb
  have := (min_full hg n _ _ _ _ hb.1 hj (by omega)).2
  rw [Int.toNat_natCast] at this
  exact this
/-- the reference's numbers are the roots -/
theorem min_roots {l : List Edge} {n : Nat} (hg : ∀ y ∈ l, GoodE (n : Int) y) : minRounds l (idL n) n = rootsL l n := by
  have hlr : (rootsL l n).length = n := rootTo_len l n _ (Nat.le_refl _)
  apply gi_ext
  · rw [minRounds_len, idL_len, hlr]
  · intro i hi
    rw [minRounds_len, idL_len] at hi
    obtain ⟨h1, h2⟩ := roots_least hg hi
    obtain ⟨h3, h4⟩ := min_least hg hi
    have h5 := (roots_ok hg l.length (Nat.le_refl _)).lo i hi
    have h6 := h2 _ h3
    have h7 := h4 _ (by unfold rootsL; omega) h1
    omega
/-- the components are numbered in the order of their least nodes -/
def numTo (rs : List Int) : Nat → List Int × Int
  | 0 => ([], 0)
  | k + 1 => if gi rs k = (k : Int) then ((numTo rs k).1 ++ [(numTo rs k).2], (numTo rs k).2 + 1) else ((numTo rs k).1 ++ [gi (numTo rs k).1 (gi rs k).toNat], (numTo rs k).2)
theorem numTo_len (rs : List Int) : ∀ k, (numTo rs k).1.length = k
  | 0 => rfl
  | k + 1 => by
    rw [numTo]
    split <;> (rw [List.length_append, numTo_len rs k]; rfl)
theorem numTo_cnt (rs : List Int) : ∀ k, 0 ≤ (numTo rs k).2 ∧ (numTo rs k).2 ≤ (k : Int)
  | 0 => ⟨Int.le_refl _, Int.le_refl _⟩
  | k + 1 => by
    have := numTo_cnt rs k
    rw [numTo]
    split <;> (simp only []; omega)
/-- the components -/
def compL (l : List Edge) (n : Nat) : List Int := (numTo (rootsL l n) n).1
end Go.Proofs.Ytabhinmodnmllaa
