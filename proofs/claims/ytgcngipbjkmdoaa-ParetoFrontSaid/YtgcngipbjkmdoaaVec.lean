/-
  Vectors of four ints: the orders, Pareto fronts. Plain lists, no program in sight.
-/
namespace Go.Proofs.Ytgcngipbjkmdoaa.Vec

abbrev V := Int × Int × Int × Int
/-- component i -/
def vi (v : V) : Nat → Int
  | 0 => v.1
  | 1 => v.2.1
  | 2 => v.2.2.1
  | _ => v.2.2.2
def mkV (f : Nat → Int) : V := (f 0, f 1, f 2, f 3)
/-- nowhere greater -/
def leV (a b : V) : Bool := decide (a.1 ≤ b.1 ∧ a.2.1 ≤ b.2.1 ∧ a.2.2.1 ≤ b.2.2.1 ∧ a.2.2.2 ≤ b.2.2.2)
def eqV (a b : V) : Bool := decide (a = b)
def domV (a b : V) : Bool := !eqV a b && leV a b
/-- lexicographically less -/
def ltV (a b : V) : Bool := decide (a.1 < b.1 ∨ a.1 = b.1 ∧ (a.2.1 < b.2.1 ∨ a.2.1 = b.2.1 ∧ (a.2.2.1 < b.2.2.1 ∨ a.2.2.1 = b.2.2.1 ∧ a.2.2.2 < b.2.2.2)))
def cmpV (a b : V) : Int := if ltV a b then -1 else if ltV b a then 1 else 0
def covV (l : List V) (v : V) : Bool := l.any fun w => leV w v
/-- does a vector of the list dominate v? -/
def dominV (l : List V) (v : V) : Bool := l.any fun w => domV w v
/-- the place of v among a sorted list -/
def lowV (g : List V) (v : V) : List V := g.takeWhile fun w => ltV w v
def highV (g : List V) (v : V) : List V := g.dropWhile fun w => ltV w v
def keepV (f : List V) (v : V) : List V := f.filter fun w => !domV v w
def putV (f : List V) (v : V) : List V := if covV f v then f else lowV (keepV f v) v ++ v :: highV (keepV f v) v
def sameV (a b : List V) : Bool := decide (a = b)
def frontV (l : List V) : List V := l.foldl putV []
def mergeV (a b : List V) : List V := b.foldl putV (frontV a)
def withinV (l : List V) (lim : V) : List V := l.filter fun w => leV w lim

theorem ext4 {a b : V} (h0 : a.1 = b.1) (h1 : a.2.1 = b.2.1) (h2 : a.2.2.1 = b.2.2.1) (h3 : a.2.2.2 = b.2.2.2) : a = b := by
  obtain ⟨a0, a1, a2, a3⟩ := a
  obtain ⟨b0, b1, b2, b3⟩ := b
  simp at h0 h1 h2 h3
  simp [h0, h1, h2, h3]
theorem eq4 (a b : V) : a = b ↔ (a.1 = b.1 ∧ a.2.1 = b.2.1 ∧ a.2.2.1 = b.2.2.1 ∧ a.2.2.2 = b.2.2.2) :=
  ⟨fun h => by subst h; simp, fun ⟨h0, h1, h2, h3⟩ => ext4 h0 h1 h2 h3⟩
theorem leV_iff (a b : V) : leV a b = true ↔ (a.1 ≤ b.1 ∧ a.2.1 ≤ b.2.1 ∧ a.2.2.1 ≤ b.2.2.1 ∧ a.2.2.2 ≤ b.2.2.2) := by simp [leV]
theorem ltV_iff (a b : V) : ltV a b = true ↔ (a.1 < b.1 ∨ a.1 = b.1 ∧ (a.2.1 < b.2.1 ∨ a.2.1 = b.2.1 ∧ (a.2.2.1 < b.2.2.1 ∨ a.2.2.1 = b.2.2.1 ∧ a.2.2.2 < b.2.2.2))) := by simp only [ltV, decide_eq_true_eq]
theorem domV_iff (a b : V) : domV a b = true ↔ (a ≠ b ∧ leV a b = true) := by simp [domV, eqV]
theorem leV_refl (a : V) : leV a a = true := by rw [leV_iff]; omega
theorem leV_trans {a b c : V} (h1 : leV a b = true) (h2 : leV b c = true) : leV a c = true := by rw [leV_iff] at *; omega
theorem leV_antisymm {a b : V} (h1 : leV a b = true) (h2 : leV b a = true) : a = b := by rw [leV_iff] at *; rw [eq4]; omega
theorem ltV_irrefl (a : V) : ltV a a = false := by rw [← Bool.not_eq_true, ltV_iff]; omega
theorem ltV_trans {a b c : V} (h1 : ltV a b = true) (h2 : ltV b c = true) : ltV a c = true := by rw [ltV_iff] at *; omega
theorem ltV_asymm {a b : V} (h1 : ltV a b = true) : ltV b a = false := by rw [← Bool.not_eq_true]; rw [ltV_iff] at *; omega
theorem ltV_total {a b : V} (h : a ≠ b) : ltV a b = true ∨ ltV b a = true := by
  rw [Ne, eq4] at h
  rw [ltV_iff, ltV_iff]; omega
theorem ltV_ne {a b : V} (h : ltV a b = true) : a ≠ b := by rintro rfl; rw [ltV_irrefl] at h; cases h
theorem domV_trans {a b c : V} (h1 : domV a b = true) (h2 : leV b c = true) : domV a c = true := by
  rw [domV_iff] at *
  refine ⟨?_, leV_trans h1.2 h2⟩
  rintro rfl
  exact h1.1 (leV_antisymm h1.2 h2)
theorem domV_trans' {a b c : V} (h1 : leV a b = true) (h2 : domV b c = true) : domV a c = true := by
  rw [domV_iff] at *
  refine ⟨?_, leV_trans h1 h2.2⟩
  rintro rfl
  exact h2.1 (leV_antisymm h2.2 h1)
theorem domV_irrefl (a : V) : domV a a = false := by simp [domV, eqV]

/-- in strictly ascending order -/
def Sorted (l : List V) : Prop := l.Pairwise fun a b => ltV a b = true
theorem sorted_ext {a b : List V} (ha : Sorted a) (hb : Sorted b) (h : ∀ x, x ∈ a ↔ x ∈ b) : a = b := by
  induction a generalizing b with
  | nil =>
    cases b with
    | nil => rfl
    | cons y b => exact absurd ((h y).2 (by simp)) (by simp)
  | cons x a ih =>
    cases b with
    | nil => exact absurd ((h x).1 (by simp)) (by simp)
    | cons y b =>
      unfold Sorted at ha hb
      rw [List.pairwise_cons] at ha hb
      have hxy : x = y := by
        rcases List.mem_cons.1 ((h x).1 (by simp)) with e | e
        · exact e
        · rcases List.mem_cons.1 ((h y).2 (by simp)) with e' | e'
          · exact e'.symm
          · have h1 := hb.1 x e
            have h2 := ha.1 y e'
            rw [ltV_asymm h1] at h2; cases h2
      subst hxy
      congr 1
      apply ih ha.2 hb.2
      intro z
      constructor
      · intro hz
        rcases List.mem_cons.1 ((h z).1 (by simp [hz])) with e | e
        · subst e; exact absurd (ha.1 z hz) (by rw [ltV_irrefl]; simp)
        · exact e
      · intro hz
        rcases List.mem_cons.1 ((h z).2 (by simp [hz])) with e | e
        · subst e; exact absurd (hb.1 z hz) (by rw [ltV_irrefl]; simp)
        · exact e
theorem sorted_low_high (g : List V) (v : V) : lowV g v ++ highV g v = g := List.takeWhile_append_dropWhile
theorem low_lt {g : List V} {v : V} {w : V} (hw : w ∈ lowV g v) : ltV w v = true := by
  induction g with
  | nil => simp [lowV] at hw
  | cons x g ih =>
    unfold lowV at hw
    rw [List.takeWhile_cons] at hw
    by_cases hx : ltV x v = true
    · rw [if_pos hx] at hw
      rcases List.mem_cons.1 hw with e | e
      · subst e; exact hx
      · exact ih e
    · rw [if_neg hx] at hw
      simp at hw
theorem high_ge {g : List V} {v : V} (hg : Sorted g) {w : V} (hw : w ∈ highV g v) : ltV w v = false := by
  induction g with
  | nil => simp [highV] at hw
  | cons x g ih =>
    unfold Sorted at hg
    rw [List.pairwise_cons] at hg
    unfold highV at hw
    rw [List.dropWhile_cons] at hw
    by_cases hx : ltV x v = true
    · rw [if_pos hx] at hw
      exact ih hg.2 hw
    · rw [if_neg hx] at hw
      rcases List.mem_cons.1 hw with e | e
      · subst e; simpa using hx
      · rw [← Bool.not_eq_true]
        intro hwv
        exact hx (ltV_trans (hg.1 w e) hwv)
theorem mem_putV {f : List V} {v x : V} : x ∈ putV f v ↔ (if covV f v then x ∈ f else (x = v ∨ x ∈ f ∧ domV v x = false)) := by
  unfold putV
  split
  · rfl
  · have h : x ∈ lowV (keepV f v) v ++ v :: highV (keepV f v) v ↔ (x = v ∨ x ∈ keepV f v) := by
      rw [← sorted_low_high (keepV f v) v]
      rw [sorted_low_high]
      simp only [List.mem_append, List.mem_cons]
      conv => rhs; rw [← sorted_low_high (keepV f v) v]
      simp only [List.mem_append]
      constructor
      · rintro (h | h | h)
        · exact .inr (.inl h)
        · exact .inl h
        · exact .inr (.inr h)
      · rintro (h | h | h)
        · exact .inr (.inl h)
        · exact .inl h
        · exact .inr (.inr h)
    rw [h]
    simp [keepV]
theorem sorted_putV {f : List V} {v : V} (hf : Sorted f) : Sorted (putV f v) := by
  unfold putV
  split
  · exact hf
  · rename_i hc
    have hg : Sorted (keepV f v) := List.Pairwise.filter _ hf
    have hsub : ∀ w ∈ keepV f v, w ∈ f := fun w hw => (List.mem_filter.1 hw).1
    have hne : ∀ w ∈ keepV f v, w ≠ v := by
      intro w hw e
      subst e
      apply hc
      unfold covV
      rw [List.any_eq_true]
      exact ⟨w, hsub w hw, leV_refl w⟩
    have hg2 := hg
    unfold Sorted at hg2 ⊢
    rw [← sorted_low_high (keepV f v) v, List.pairwise_append] at hg2
    rw [List.pairwise_append, List.pairwise_cons]
    have hlow : ∀ a ∈ lowV (keepV f v) v, ltV a v = true := fun a ha => low_lt ha
    have hhigh : ∀ b ∈ highV (keepV f v) v, ltV v b = true := by
      intro b hb
      have h1 := high_ge hg hb
      have hm : b ∈ keepV f v := by rw [← sorted_low_high (keepV f v) v]; simp [hb]
      rcases ltV_total (hne b hm) with h | h
      · rw [h1] at h; cases h
      · exact h
    refine ⟨hg2.1, ⟨hhigh, hg2.2.1⟩, ?_⟩
    intro a ha b hb
    rcases List.mem_cons.1 hb with e | e
    · subst e; exact hlow a ha
    · exact hg2.2.2 a ha b e
/-- f is a front of l -/
structure IsF (f l : List V) : Prop where
  sorted : Sorted f
  mem : ∀ x, x ∈ f ↔ x ∈ l ∧ ∀ y ∈ l, domV y x = false
theorem IsF.nil : IsF [] [] := ⟨List.Pairwise.nil, by simp⟩
/-- every vector of a list is covered by its front -/
theorem exists_min (l : List V) (x : V) (hx : x ∈ l) : ∃ m ∈ l, leV m x = true ∧ ∀ y ∈ l, domV y m = false := by
  induction l generalizing x with
  | nil => simp at hx
  | cons a l ih =>
    by_cases hl : ∃ z ∈ l, leV z x = true
    · obtain ⟨z, hz, hzx⟩ := hl
      obtain ⟨m, hm, hmz, hmin⟩ := ih z hz
      by_cases ha : domV a m = true
      · refine ⟨a, by simp, leV_trans ((domV_iff _ _).1 ha).2 (leV_trans hmz hzx), ?_⟩
        intro y hy
        rcases List.mem_cons.1 hy with e | e
        · subst e; exact domV_irrefl _
        · rw [← Bool.not_eq_true]
          intro hya
          have := domV_trans hya ((domV_iff _ _).1 ha).2
          rw [hmin y e] at this; cases this
      · refine ⟨m, by simp [hm], leV_trans hmz hzx, ?_⟩
        intro y hy
        rcases List.mem_cons.1 hy with e | e
        · subst e; simpa using ha
        · exact hmin y e
    · have hxa : x = a := by
        rcases List.mem_cons.1 hx with e | e
        · exact e
        · exact absurd ⟨x, e, leV_refl x⟩ hl
      subst hxa
      refine ⟨x, by simp, leV_refl x, ?_⟩
      intro y hy
      rcases List.mem_cons.1 hy with e | e
      · subst e; exact domV_irrefl _
      · rw [← Bool.not_eq_true]
        intro h
        exact hl ⟨y, e, ((domV_iff _ _).1 h).2⟩
theorem IsF.cov {f l : List V} (h : IsF f l) (v : V) : covV f v = covV l v := by
  unfold covV
  rw [Bool.eq_iff_iff, List.any_eq_true, List.any_eq_true]
  constructor
  · rintro ⟨x, hx, hv⟩; exact ⟨x, ((h.mem x).1 hx).1, hv⟩
  · rintro ⟨x, hx, hv⟩
    obtain ⟨m, hm, hmx, hmin⟩ := exists_min l x hx
    exact ⟨m, (h.mem m).2 ⟨hm, hmin⟩, leV_trans hmx hv⟩
theorem IsF.put {f l : List V} (h : IsF f l) (v : V) : IsF (putV f v) (l ++ [v]) := by
  refine ⟨sorted_putV h.sorted, fun x => ?_⟩
  rw [mem_putV]
  simp only [List.mem_append, List.mem_singleton]
  by_cases hc : covV f v = true
  · rw [if_pos hc]
    have hc' := hc
    unfold covV at hc'
    rw [List.any_eq_true] at hc'
    obtain ⟨m, hm, hmv⟩ := hc'
    constructor
    · intro hx
      have := (h.mem x).1 hx
      refine ⟨.inl this.1, ?_⟩
      rintro y (hy | rfl)
      · exact this.2 y hy
      · rw [← Bool.not_eq_true]
        intro hd
        have := domV_trans' hmv hd
        rw [((h.mem x).1 hx).2 m ((h.mem m).1 hm).1] at this; cases this
    · rintro ⟨hx | rfl, hmin⟩
      · exact (h.mem x).2 ⟨hx, fun y hy => hmin y (.inl hy)⟩
      · have hmx : m = x := by
          have h1 := hmin m (.inl ((h.mem m).1 hm).1)
          by_cases e : m = x
          · exact e
          · have := (domV_iff m x).2 ⟨e, hmv⟩
            rw [h1] at this; cases this
        rw [← hmx]; exact hm
  · rw [if_neg hc]
    have hcl : ∀ y ∈ l, leV y v = false := by
      intro y hy
      rw [← Bool.not_eq_true]
      intro hle
      apply hc
      rw [h.cov]
      unfold covV
      rw [List.any_eq_true]
      exact ⟨y, hy, hle⟩
    constructor
    · rintro (rfl | ⟨hx, hd⟩)
      · refine ⟨.inr rfl, ?_⟩
        rintro y (hy | rfl)
        · rw [← Bool.not_eq_true]
          intro hdd
          have := ((domV_iff y x).1 hdd).2
          rw [hcl y hy] at this; cases this
        · exact domV_irrefl _
      · have := (h.mem x).1 hx
        refine ⟨.inl this.1, ?_⟩
        rintro y (hy | rfl)
        · exact this.2 y hy
        · exact hd
    · rintro ⟨hx | rfl, hmin⟩
      · exact .inr ⟨(h.mem x).2 ⟨hx, fun y hy => hmin y (.inl hy)⟩, hmin v (.inr rfl)⟩
      · exact .inl rfl
theorem isF_foldl {f l : List V} (h : IsF f l) (b : List V) : IsF (b.foldl putV f) (l ++ b) := by
  induction b generalizing f l with
  | nil => simpa using h
  | cons v b ih =>
    have := ih (h.put v)
    simpa using this
theorem isF_front (l : List V) : IsF (frontV l) l := by
  have := isF_foldl IsF.nil l
  rwa [List.nil_append] at this
theorem isF_merge (a b : List V) : IsF (mergeV a b) (a ++ b) := isF_foldl (isF_front a) b
theorem IsF.unique {f g l m : List V} (hf : IsF f l) (hg : IsF g m) (h : ∀ x, x ∈ l ↔ x ∈ m) : f = g := by
  apply sorted_ext hf.sorted hg.sorted
  intro x
  rw [hf.mem, hg.mem, h]
  constructor
  · rintro ⟨a, b⟩; exact ⟨a, fun y hy => b y ((h y).2 hy)⟩
  · rintro ⟨a, b⟩; exact ⟨a, fun y hy => b y ((h y).1 hy)⟩
theorem merge_eq (a b : List V) : mergeV a b = frontV (a ++ b) := (isF_merge a b).unique (isF_front _) (fun _ => Iff.rfl)
theorem put_front (l : List V) (v : V) : putV (frontV l) v = frontV (l ++ [v]) := ((isF_front l).put v).unique (isF_front _) (fun _ => Iff.rfl)
theorem cov_front (l : List V) (v : V) : covV (frontV l) v = covV l v := (isF_front l).cov v
/-- a front of a front: the front of the list -/
theorem isF_of_front {f l : List V} (h : IsF f l) : IsF f f := by
  refine ⟨h.sorted, fun x => ⟨fun hx => ⟨hx, fun y hy => ((h.mem x).1 hx).2 y ((h.mem y).1 hy).1⟩, fun hx => hx.1⟩⟩
theorem front_front (l : List V) : frontV (frontV l) = frontV l := (isF_front _).unique (isF_of_front (isF_front l)) (fun _ => Iff.rfl)
theorem front_perm {l m : List V} (h : ∀ x, x ∈ l ↔ x ∈ m) : frontV l = frontV m := (isF_front l).unique (isF_front m) h
theorem isF_mix {f g l m : List V} (hf : IsF f l) (hg : IsF g m) : IsF (frontV (f ++ g)) (l ++ m) := by
  refine ⟨(isF_front _).sorted, fun x => ?_⟩
  rw [(isF_front _).mem]
  simp only [List.mem_append]
  constructor
  · rintro ⟨hx, hmin⟩
    have hxl : x ∈ l ∨ x ∈ m := by
      rcases hx with hx | hx
      · exact .inl ((hf.mem x).1 hx).1
      · exact .inr ((hg.mem x).1 hx).1
    refine ⟨hxl, ?_⟩
    rintro y (hy | hy)
    · obtain ⟨z, hz, hzy, hzm⟩ := exists_min l y hy
      rw [← Bool.not_eq_true]
      intro hd
      have := domV_trans' hzy hd
      rw [hmin z (.inl ((hf.mem z).2 ⟨hz, hzm⟩))] at this; cases this
    · obtain ⟨z, hz, hzy, hzm⟩ := exists_min m y hy
      rw [← Bool.not_eq_true]
      intro hd
      have := domV_trans' hzy hd
      rw [hmin z (.inr ((hg.mem z).2 ⟨hz, hzm⟩))] at this; cases this
  · rintro ⟨hx, hmin⟩
    refine ⟨?_, ?_⟩
    · rcases hx with hx | hx
      · exact .inl ((hf.mem x).2 ⟨hx, fun y hy => hmin y (.inl hy)⟩)
      · exact .inr ((hg.mem x).2 ⟨hx, fun y hy => hmin y (.inr hy)⟩)
    · rintro y (hy | hy)
      · exact hmin y (.inl ((hf.mem y).1 hy).1)
      · exact hmin y (.inr ((hg.mem y).1 hy).1)
theorem merge_comm (a b : List V) : mergeV a b = mergeV b a := by
  rw [merge_eq, merge_eq]
  exact front_perm (fun x => by simp [or_comm])
theorem merge_assoc (a b c : List V) : mergeV (mergeV a b) c = mergeV a (mergeV b c) := by
  rw [merge_eq (mergeV a b) c, merge_eq a (mergeV b c)]
  have h1 : IsF (frontV (mergeV a b ++ c)) ((a ++ b) ++ c) := by
    have := isF_mix (isF_merge a b) (isF_of_front (isF_front c))
    refine ⟨(isF_front _).sorted, fun x => ?_⟩
    have h2 := isF_mix (isF_merge a b) (isF_front c)
    rw [← h2.mem]
    have e : frontV (mergeV a b ++ c) = frontV (mergeV a b ++ frontV c) := by
      rw [← merge_eq, ← merge_eq, merge_comm, merge_comm (mergeV a b)]
      unfold mergeV
      rw [front_front]
    rw [e]
  have h2 : IsF (frontV (a ++ mergeV b c)) (a ++ (b ++ c)) := by
    have h2 := isF_mix (isF_front a) (isF_merge b c)
    have e : frontV (a ++ mergeV b c) = frontV (frontV a ++ mergeV b c) := by
      rw [← merge_eq, ← merge_eq]
      unfold mergeV
      rw [front_front]
    rw [e]; exact h2
  exact h1.unique h2 (fun x => by simp)
theorem leV_all {x y : V} (h : ∀ j, j < 4 → vi x j ≤ vi y j) : leV x y = true := by
  rw [leV_iff]
  exact ⟨h 0 (by omega), h 1 (by omega), h 2 (by omega), h 3 (by omega)⟩
theorem leV_not {x y : V} {k : Nat} (hk : k < 4) (h : vi y k < vi x k) : leV x y = false := by
  rw [← Bool.not_eq_true, leV_iff]
  match k, hk with
  | 0, _ => simp only [vi] at h; omega
  | 1, _ => simp only [vi] at h; omega
  | 2, _ => simp only [vi] at h; omega
  | 3, _ => simp only [vi] at h; omega
theorem eq_vi {x y : V} : x = y ↔ (vi x 0 = vi y 0 ∧ vi x 1 = vi y 1 ∧ vi x 2 = vi y 2 ∧ vi x 3 = vi y 3) := eq4 x y
theorem cmp_eq {x y : V} (h : x = y) : cmpV x y = 0 := by subst h; simp [cmpV, ltV_irrefl]
theorem lt_at {x y : V} {k : Nat} (hk : k < 4) (h : ∀ j, j < k → vi x j = vi y j) (hl : vi x k < vi y k) : ltV x y = true := by
  rw [ltV_iff]
  match k, hk with
  | 0, _ => simp only [vi] at hl; omega
  | 1, _ => have h0 := h 0 (by omega); simp only [vi] at hl h0; omega
  | 2, _ => have h0 := h 0 (by omega); have h1 := h 1 (by omega); simp only [vi] at hl h0 h1; omega
  | 3, _ => have h0 := h 0 (by omega); have h1 := h 1 (by omega); have h2 := h 2 (by omega); simp only [vi] at hl h0 h1 h2; omega
theorem cmp_lt {x y : V} {k : Nat} (hk : k < 4) (h : ∀ j, j < k → vi x j = vi y j) (hl : vi x k < vi y k) : cmpV x y = -1 := by
  unfold cmpV
  rw [if_pos (lt_at hk h hl)]
theorem cmp_gt {x y : V} {k : Nat} (hk : k < 4) (h : ∀ j, j < k → vi x j = vi y j) (hl : vi y k < vi x k) : cmpV x y = 1 := by
  have h1 := lt_at hk (fun j hj => (h j hj).symm) hl
  unfold cmpV
  rw [if_neg (by rw [ltV_asymm h1]; simp), if_pos h1]
theorem cmp_all {x y : V} (h : ∀ j, j < 4 → vi x j = vi y j) : cmpV x y = 0 := cmp_eq (eq_vi.2 ⟨h 0 (by omega), h 1 (by omega), h 2 (by omega), h 3 (by omega)⟩)
/-- what the reference's Dominates knows behind k components: none is greater, and whether one is less -/
def DomTo (x y : V) (k : Nat) (b : Bool) : Prop := (∀ j, j < k → vi x j ≤ vi y j) ∧ (b = true ↔ ∃ j, j < k ∧ vi x j < vi y j)
theorem domTo_zero (x y : V) : DomTo x y 0 false := ⟨fun j h => absurd h (by omega), by simp⟩
theorem DomTo.lt {x y : V} {k : Nat} {b : Bool} (h : DomTo x y k b) (hl : vi x k < vi y k) : DomTo x y (k + 1) true :=
  ⟨fun j hj => by
    by_cases e : j = k
    · subst e; omega
    · exact h.1 j (by omega), by simp; exact ⟨k, by omega, hl⟩⟩
theorem DomTo.eq {x y : V} {k : Nat} {b : Bool} (h : DomTo x y k b) (hl : vi x k = vi y k) : DomTo x y (k + 1) b :=
  ⟨fun j hj => by
    by_cases e : j = k
    · subst e; omega
    · exact h.1 j (by omega), by
    rw [h.2]
    constructor
    · rintro ⟨j, hj, hjl⟩; exact ⟨j, by omega, hjl⟩
    · rintro ⟨j, hj, hjl⟩
      by_cases e : j = k
      · subst e; omega
      · exact ⟨j, by omega, hjl⟩⟩
theorem dom_not {x y : V} {k : Nat} (hk : k < 4) (h : vi y k < vi x k) : domV x y = false := by
  unfold domV
  rw [leV_not hk h]
  simp
theorem DomTo.all {x y : V} {b : Bool} (h : DomTo x y 4 b) : domV x y = b := by
  have hle := leV_all h.1
  unfold domV
  rw [hle, Bool.and_true, Bool.eq_iff_iff, h.2]
  simp only [eqV, Bool.not_eq_true', decide_eq_false_iff_not]
  constructor
  · intro hne
    apply Classical.byContradiction
    intro hno
    apply hne
    rw [eq_vi]
    have hh : ∀ j, j < 4 → vi x j = vi y j := fun j hj => by
      have h1 := h.1 j hj
      by_cases hl : vi x j < vi y j
      · exact absurd ⟨j, hj, hl⟩ hno
      · omega
    exact ⟨hh 0 (by omega), hh 1 (by omega), hh 2 (by omega), hh 3 (by omega)⟩
  · rintro ⟨j, hj, hl⟩ rfl
    omega
theorem any_snoc {l : List V} {p : V → Bool} (x : V) : (l ++ [x]).any p = (l.any p || p x) := by simp
theorem any_take {l : List V} {p : V → Bool} {k : Nat} (h : k < l.length) (hp : p l[k] = true) : l.any p = true := by
  rw [List.any_eq_true]
  exact ⟨l[k], List.getElem_mem h, hp⟩
theorem le_dom (x v : V) : leV x v = (eqV x v || domV x v) := by
  unfold domV
  cases he : eqV x v
  · simp
  · have : x = v := by simpa [eqV] using he
    subst this
    simp [leV_refl]
end Go.Proofs.Ytgcngipbjkmdoaa.Vec
