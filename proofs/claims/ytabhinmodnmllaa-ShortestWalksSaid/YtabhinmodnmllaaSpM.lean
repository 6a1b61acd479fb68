/-
  The plain law of Dijkstra's search: walks, least costs, the invariant. No program in sight.
-/
import Derived.Test.YtabhinmodnmllaaSpL
import Derived.Test.YtabhinmodnmllaaSpH
namespace Go.Proofs.Ytabhinmodnmllaa

/-- there is a walk from s to v of this length and number of edges -/
inductive Wk (L : Int → List Edge) (s : Int) : Int → Int → Int → Prop
  | nil : Wk L s s 0 0
  | step {v c e : Int} {y : Edge} : Wk L s v c e → y ∈ L v → Wk L s y.dst (c + y.wt) (e + 1)
/-- shorter, or as long and of no more edges -/
def LL (c e c' e' : Int) : Prop := c < c' ∨ (c = c' ∧ e ≤ e')
theorem LL.refl (c e : Int) : LL c e c e := .inr ⟨rfl, Int.le_refl _⟩
theorem LL.trans {c e c' e' c2 e2 : Int} (h : LL c e c' e') (h2 : LL c' e' c2 e2) : LL c e c2 e2 := by
  unfold LL at *
  omega
/-- the edges lead from where they are filed to nodes of the graph -/
structure Graph (L : Int → List Edge) (n : Nat) : Prop where
  dst : ∀ v, ∀ y ∈ L v, 0 ≤ y.dst ∧ y.dst < n
  wt : ∀ v, ∀ y ∈ L v, 0 ≤ y.wt ∧ y.wt ≤ 1073741824
theorem Wk.edges {L : Int → List Edge} {s v c e : Int} (h : Wk L s v c e) : 0 ≤ e := by
  induction h with
  | nil => omega
  | step _ _ ih => omega
theorem Wk.len {L : Int → List Edge} {n : Nat} (hg : Graph L n) {s v c e : Int} (h : Wk L s v c e) : 0 ≤ c ∧ c ≤ 1073741824 * e := by
  induction h with
  | nil => omega
  | step _ hy ih =>
    have := hg.wt _ _ hy
    omega
/-- the least cost of a walk from s to v -/
def Best (L : Int → List Edge) (s v c e : Int) : Prop := Wk L s v c e ∧ ∀ c' e', Wk L s v c' e' → LL c e c' e'
theorem Best.uniq {L : Int → List Edge} {s v c e c' e' : Int} (h : Best L s v c e) (h2 : Best L s v c' e') : c = c' ∧ e = e' := by
  have a := h.2 _ _ h2.1
  have b := h2.2 _ _ h.1
  unfold LL at a b
  omega
/-- the label of node v -/
abbrev lb (out : List Lab) (v : Int) : Lab := gl out v.toNat
/-- node v has its label -/
def Seen (out : List Lab) (v : Int) : Prop := 0 ≤ (lb out v).edges
/-- what the search holds; of the edges from u0 only the first j have been looked at -/
structure DInv (L : Int → List Edge) (s : Int) (n : Nat) (out : List Lab) (ns : List Node) (u0 : Int) (j : Nat) : Prop where
  len : out.length = n
  node : ∀ v : Int, 0 ≤ v → v < n → (lb out v).node = v
  seen : ∀ v : Int, 0 ≤ v → v < n → Seen out v → Best L s v (lb out v).len (lb out v).edges
  not : ∀ v : Int, 0 ≤ v → v < n → ¬ Seen out v → (lb out v).edges = -1 ∧ (lb out v).len = -1
  sound : ∀ x ∈ ns, 0 ≤ x.p.node ∧ x.p.node < n ∧ Wk L s x.p.node x.p.len x.p.edges
  start : ¬ Seen out s → ∃ x ∈ ns, x.p.node = s ∧ LL x.p.len x.p.edges 0 0
  front : ∀ u : Int, 0 ≤ u → u < n → Seen out u → ∀ i, i < (L u).length → (u = u0 → i < j) → ¬ Seen out (ge (L u) i).dst → ∃ x ∈ ns, x.p.node = (ge (L u) i).dst ∧ LL x.p.len x.p.edges ((lb out u).len + (ge (L u) i).wt) ((lb out u).edges + 1)
section
variable {L : Int → List Edge} {s : Int} {n : Nat} {out : List Lab} {ns : List Node} {u0 : Int} {j : Nat}
theorem ge_mem {l : List Edge} {k : Nat} (h : k < l.length) : ge l k ∈ l := edgeC.g_mem h
theorem mem_ge {l : List Edge} {y : Edge} (h : y ∈ l) : ∃ k, k < l.length ∧ ge l k = y := by
  obtain ⟨k, hk, e⟩ := List.getElem_of_mem h
  exact ⟨k, hk, (edgeC.g_eq hk).trans e⟩
/-- every walk that ends outside has crossed: something in the heap is no more than it -/
theorem DInv.cross (hg : Graph L n) (hs : 0 ≤ s ∧ s < n) (h : DInv L s n out ns (-1) j) {v c e : Int} (hw : Wk L s v c e) : (0 ≤ v ∧ v < n) ∧ (¬ Seen out v → ∃ x ∈ ns, ¬ Seen out x.p.node ∧ LL x.p.len x.p.edges c e) := by
  induction hw with
  | nil =>
    refine ⟨hs, fun hv => ?_⟩
    obtain ⟨x, hx, e1, e2⟩ := h.start hv
    exact ⟨x, hx, by rw [e1]; exact hv, e2⟩
  | step hw hy ih =>
    rename_i v c e y
    refine ⟨hg.dst _ _ hy, fun hv => ?_⟩
    have hwt := hg.wt _ _ hy
    by_cases hsv : Seen out v
    · obtain ⟨k, hk, ek⟩ := mem_ge hy
      obtain ⟨x, hx, e1, e2⟩ := h.front v ih.1.1 ih.1.2 hsv k hk (fun e => by have := ih.1.1; omega) (by rw [ek]; exact hv)
      rw [ek] at e1 e2
      refine ⟨x, hx, by rw [e1]; exact hv, e2.trans ?_⟩
      have := (h.seen v ih.1.1 ih.1.2 hsv).2 _ _ hw
      unfold LL at *
      omega
    · obtain ⟨x, hx, e1, e2⟩ := ih.2 hsv
      refine ⟨x, hx, e1, e2.trans ?_⟩
      unfold LL
      omega
/-- a node that the heap hands out first, and that has no label yet, gets its least cost -/
theorem DInv.best (hg : Graph L n) (hs : 0 ≤ s ∧ s < n) (h : DInv L s n out ns (-1) j) {x : Node} (hx : x ∈ ns) (hmin : ∀ y ∈ ns, Le ltL x y) (hns : ¬ Seen out x.p.node) : Best L s x.p.node x.p.len x.p.edges := by
  refine ⟨(h.sound x hx).2.2, fun c' e' hw => ?_⟩
  obtain ⟨y, hy, _, h2⟩ := (h.cross hg hs hw).2 hns
  have h3 := (le_iff (f := ()) rfl _ _).1 (hmin y hy)
  unfold LL at *
  omega
theorem lb_set {u v : Int} (hu : 0 ≤ u ∧ u < n) (hv : 0 ≤ v) (hl : out.length = n) (x : Lab) : lb (out.set u.toNat x) v = if v = u then x else lb out v := by
  unfold lb gl Codec.g
  rw [List.getD_eq_getElem?_getD, List.getElem?_set, List.getD_eq_getElem?_getD]
  by_cases e : v = u
  · subst e
    rw [if_pos rfl, if_pos rfl, if_pos (by omega)]
    rfl
  · rw [if_neg e, if_neg (by omega)]
/-- a label of a node that has one already is passed over -/
theorem DInv.skip {x : Node} {ms : List Node} (h : DInv L s n out ns (-1) j) (hp : (x :: ms).Perm ns) (hx : Seen out x.p.node) : DInv L s n out ms (-1) j := by
  have keep : ∀ v : Int, ¬ Seen out v → ∀ y ∈ ns, y.p.node = v → y ∈ ms := fun v hv y hy e => by
    rcases List.mem_cons.1 (hp.symm.subset hy) with rfl | h1
    · exact absurd (show Seen out v by rw [← e]; exact hx) hv
    · exact h1
  refine ⟨h.len, h.node, h.seen, h.not, fun y hy => h.sound y (hp.subset (List.mem_cons_of_mem _ hy)), fun hv => ?_, fun u h0 h1 h2 i h3 h4 h5 => ?_⟩
  · obtain ⟨y, hy, e1, e2⟩ := h.start hv
    exact ⟨y, keep _ hv y hy e1, e1, e2⟩
  · obtain ⟨y, hy, e1, e2⟩ := h.front u h0 h1 h2 i h3 h4 h5
    exact ⟨y, keep _ h5 y hy e1, e1, e2⟩
/-- the label is set; the edges from there wait -/
theorem DInv.visit (hg : Graph L n) (hs : 0 ≤ s ∧ s < n) {x : Node} {ms : List Node} (h : DInv L s n out ns (-1) j) (hp : (x :: ms).Perm ns) (hmin : ∀ y ∈ ns, Le ltL x y) (hx : ¬ Seen out x.p.node) : DInv L s n (out.set x.p.node.toNat x.p) ms x.p.node 0 := by
  have hxm : x ∈ ns := hp.subset List.mem_cons_self
  obtain ⟨g1, g2, g3⟩ := h.sound x hxm
  have hb := h.best hg hs hxm hmin hx
  have st := fun v (hv : 0 ≤ v) => lb_set (out := out) (u := x.p.node) ⟨g1, g2⟩ hv h.len x.p
  have se : ∀ v : Int, 0 ≤ v → (Seen (out.set x.p.node.toNat x.p) v ↔ v = x.p.node ∨ Seen out v) := fun v hv => by
    unfold Seen
    rw [st v hv]
    have := g3.edges
    by_cases e : v = x.p.node
    · rw [if_pos e]
      exact ⟨fun _ => .inl e, fun _ => this⟩
    · rw [if_neg e]
      exact ⟨fun h => .inr h, fun h => h.resolve_left e⟩
  have keep : ∀ v : Int, v ≠ x.p.node → ∀ y ∈ ns, y.p.node = v → y ∈ ms := fun v hv y hy e => by
    rcases List.mem_cons.1 (hp.symm.subset hy) with rfl | h1
    · exact absurd e.symm hv
    · exact h1
  refine ⟨by rw [List.length_set]; exact h.len, fun v h0 h1 => ?_, fun v h0 h1 h2 => ?_, fun v h0 h1 h2 => ?_, fun y hy => h.sound y (hp.subset (List.mem_cons_of_mem _ hy)), fun hv => ?_, fun u h0 h1 h2 i h3 h4 h5 => ?_⟩
  · rw [st v h0]
    by_cases e : v = x.p.node
    · rw [if_pos e, e]
    · rw [if_neg e]; exact h.node v h0 h1
  · rw [st v h0]
    by_cases e : v = x.p.node
    · rw [if_pos e, e]; exact hb
    · rw [if_neg e]; exact h.seen v h0 h1 (((se v h0).1 h2).resolve_left e)
  · have hn := fun e => h2 ((se v h0).2 e)
    rw [st v h0, if_neg (fun e => hn (.inl e))]
    exact h.not v h0 h1 (fun e => hn (.inr e))
  · have hn := fun e => hv ((se s hs.1).2 e)
    obtain ⟨y, hy, e1, e2⟩ := h.start (fun e => hn (.inr e))
    exact ⟨y, keep s (fun e => hn (.inl e)) y hy e1, e1, e2⟩
  · have hd := hg.dst u _ (ge_mem h3)
    have hn := fun e => h5 ((se _ hd.1).2 e)
    by_cases e : u = x.p.node
    · exact absurd (h4 e) (by omega)
    · rw [st u h0, if_neg e]
      obtain ⟨y, hy, e1, e2⟩ := h.front u h0 h1 (((se u h0).1 h2).resolve_left e) i h3 (fun e3 => by omega) (fun e3 => hn (.inr e3))
      exact ⟨y, keep _ (fun e3 => hn (.inl e3)) y hy e1, e1, e2⟩
/-- an edge to a node that has a label is passed over -/
theorem DInv.pass (h : DInv L s n out ns u0 j) (hu : 0 ≤ u0) (hd : Seen out (ge (L u0) j).dst) : DInv L s n out ns u0 (j + 1) := by
  refine ⟨h.len, h.node, h.seen, h.not, h.sound, h.start, fun u h0 h1 h2 i h3 h4 h5 => ?_⟩
  by_cases e : u = u0 ∧ i = j
  · obtain ⟨rfl, rfl⟩ := e
    exact absurd hd h5
  · exact h.front u h0 h1 h2 i h3 (fun e2 => by have := h4 e2; omega) h5
/-- an edge to a node without a label is pushed -/
theorem DInv.push (h : DInv L s n out ns u0 j) (hg : Graph L n) (hu : 0 ≤ u0 ∧ u0 < n) (hj : j < (L u0).length) (hsu : Seen out u0) {ms : List Node} {q : Int}
    (hp : ms.Perm (ns ++ [⟨⟨(ge (L u0) j).dst, (lb out u0).len + (ge (L u0) j).wt, (lb out u0).edges + 1⟩, q⟩])) : DInv L s n out ms u0 (j + 1) := by
  have old : ∀ y ∈ ns, y ∈ ms := fun y hy => hp.symm.subset (List.mem_append_left _ hy)
  refine ⟨h.len, h.node, h.seen, h.not, fun y hy => ?_, fun hv => ?_, fun u h0 h1 h2 i h3 h4 h5 => ?_⟩
  · rcases List.mem_append.1 (hp.subset hy) with hy | hy
    · exact h.sound y hy
    · rw [List.mem_singleton.1 hy]
      have hd := hg.dst u0 _ (ge_mem hj)
      exact ⟨hd.1, hd.2, (h.seen u0 hu.1 hu.2 hsu).1.step (ge_mem hj)⟩
  · obtain ⟨y, hy, e1, e2⟩ := h.start hv
    exact ⟨y, old y hy, e1, e2⟩
  · by_cases e : u = u0 ∧ i = j
    · obtain ⟨rfl, rfl⟩ := e
      exact ⟨_, hp.symm.subset (List.mem_append_right _ List.mem_cons_self), rfl, LL.refl _ _⟩
    · obtain ⟨y, hy, e1, e2⟩ := h.front u h0 h1 h2 i h3 (fun e2 => by have := h4 e2; omega) h5
      exact ⟨y, old y hy, e1, e2⟩
/-- all edges from there have been looked at -/
theorem DInv.done (h : DInv L s n out ns u0 j) (hj : (L u0).length ≤ j) : DInv L s n out ns (-1) 0 :=
  ⟨h.len, h.node, h.seen, h.not, h.sound, h.start, fun u h0 h1 h2 i h3 _ h5 => h.front u h0 h1 h2 i h3 (fun e => by subst e; omega) h5⟩
/-- the labels are the least costs -/
structure LabOk (L : Int → List Edge) (s : Int) (n : Nat) (out : List Lab) : Prop where
  len : out.length = n
  node : ∀ v : Int, 0 ≤ v → v < n → (lb out v).node = v
  seen : ∀ v : Int, 0 ≤ v → v < n → Seen out v → Best L s v (lb out v).len (lb out v).edges
  not : ∀ v : Int, 0 ≤ v → v < n → ¬ Seen out v → (lb out v).edges = -1 ∧ (lb out v).len = -1 ∧ ∀ c e, ¬ Wk L s v c e
theorem DInv.end_ (hg : Graph L n) (hs : 0 ≤ s ∧ s < n) (h : DInv L s n out [] (-1) j) : LabOk L s n out :=
  ⟨h.len, h.node, h.seen, fun v h0 h1 h2 => ⟨(h.not v h0 h1 h2).1, (h.not v h0 h1 h2).2, fun c e hw => by
    obtain ⟨x, hx, _⟩ := (h.cross hg hs hw).2 h2
    cases hx⟩⟩
/-- the labels at the start -/
def lab0 (n : Nat) : List Lab := (List.range n).map fun (i : Nat) => ⟨(i : Int), -1, -1⟩
theorem lab0_len (n : Nat) : (lab0 n).length = n := by simp [lab0]
theorem lab0_at {v : Int} (h0 : 0 ≤ v) (h1 : v < n) : lb (lab0 n) v = ⟨v, -1, -1⟩ := by
  unfold lb gl
  rw [labC.g_eq (by rw [lab0_len]; omega)]
  simp [lab0]
  omega
theorem DInv.start0 (hs : 0 ≤ s ∧ s < n) {q : Int} : DInv L s n (lab0 n) [⟨⟨s, 0, 0⟩, q⟩] (-1) 0 := by
  have hno : ∀ v : Int, 0 ≤ v → v < n → ¬ Seen (lab0 n) v := fun v h0 h1 h2 => by
    unfold Seen at h2
    rw [lab0_at h0 h1] at h2
    simp at h2
  refine ⟨lab0_len n, fun v h0 h1 => by rw [lab0_at h0 h1], fun v h0 h1 h2 => absurd h2 (hno v h0 h1), fun v h0 h1 _ => by rw [lab0_at h0 h1]; exact ⟨rfl, rfl⟩, fun x hx => ?_, fun _ => ⟨_, List.mem_cons_self, rfl, LL.refl _ _⟩, fun u h0 h1 h2 => absurd h2 (hno u h0 h1)⟩
  rw [List.mem_singleton.1 hx]
  exact ⟨hs.1, hs.2, .nil⟩
end
end Go.Proofs.Ytabhinmodnmllaa
