/-
  Slices of records, read as lists: whatever the record's type, by a codec (the cells of an element). Plain lemmas on worlds and lists; no program in sight.
-/
import Derived.Test.YtabhinmodnmllaaMem
import Derived.Deep.Slices
import Derived.Deep.Fields
import Derived.ChangeSame
import Derived.OpenShut
namespace Go.Proofs.Ytabhinmodnmllaa
open Go.RowKit Go.ChangeShapes Go.WideShapes

/-- how an element of type α lies in memory -/
structure Codec (α : Type) where
  /-- the cells -/
  cs : α → List Value
  /-- how many -/
  sz : Nat
  /-- some element -/
  d : α
  /-- the number of cells -/
  len : ∀ x, (cs x).length = sz
  /-- each is one cell -/
  one : ∀ x, ∀ u ∈ cs x, u.oneCell' = true
section
variable {α : Type} (C : Codec α)
/-- element k -/
def Codec.g (xs : List α) (k : Nat) : α := xs.getD k C.d
/-- the cells of a list -/
def Codec.all (xs : List α) : List Value := xs.flatMap C.cs
theorem Codec.g_eq {xs : List α} {k : Nat} (h : k < xs.length) : C.g xs k = xs[k] := by simp [Codec.g, h]
theorem Codec.g_some {xs : List α} {k : Nat} (h : k < xs.length) : xs[k]? = some (C.g xs k) := by simp [Codec.g, h]
theorem Codec.g_mem {xs : List α} {k : Nat} (h : k < xs.length) : C.g xs k ∈ xs := by rw [C.g_eq h]; exact List.getElem_mem h
theorem Codec.g_take {xs : List α} {k : Nat} (h : k < xs.length) : xs.take (k + 1) = xs.take k ++ [C.g xs k] := by
  rw [List.take_succ_eq_append_getElem h, C.g_eq h]
theorem Codec.g_of_take {xs : List α} {k m : Nat} (h : k < m) : C.g (xs.take m) k = C.g xs k := by
  unfold Codec.g
  rw [List.getD_eq_getElem?_getD, List.getD_eq_getElem?_getD, List.getElem?_take_of_lt h]
theorem Codec.g_of_drop {xs : List α} {k m : Nat} : C.g (xs.drop m) k = C.g xs (m + k) := by
  unfold Codec.g
  rw [List.getD_eq_getElem?_getD, List.getD_eq_getElem?_getD, List.getElem?_drop]
theorem Codec.g_app_left {xs ys : List α} {k : Nat} (h : k < xs.length) : C.g (xs ++ ys) k = C.g xs k := by
  unfold Codec.g
  rw [List.getD_eq_getElem?_getD, List.getD_eq_getElem?_getD, List.getElem?_append_left h]
theorem Codec.g_ext {xs ys : List α} (hl : xs.length = ys.length) (h : ∀ k, k < xs.length → C.g xs k = C.g ys k) : xs = ys := by
  apply List.ext_getElem hl
  intro i hi hj
  have := h i hi
  rwa [C.g_eq hi, C.g_eq hj] at this
theorem Codec.all_nil : C.all [] = [] := rfl
theorem Codec.all_cons (x : α) (xs : List α) : C.all (x :: xs) = C.cs x ++ C.all xs := rfl
theorem Codec.all_app (xs ys : List α) : C.all (xs ++ ys) = C.all xs ++ C.all ys := by simp [Codec.all]
theorem Codec.all_one (x : α) : C.all [x] = C.cs x := by simp [Codec.all]
theorem Codec.all_len (xs : List α) : (C.all xs).length = xs.length * C.sz := by
  induction xs with
  | nil => simp [Codec.all]
  | cons x xs ih => rw [C.all_cons, List.length_append, ih, C.len, List.length_cons, Nat.add_mul]; omega
theorem Codec.all_one' (xs : List α) : ∀ u ∈ C.all xs, u.oneCell' = true := by
  intro u hu
  obtain ⟨x, _, hx⟩ := List.mem_flatMap.1 hu
  exact C.one x u hx
theorem Codec.all_at {xs : List α} {k j : Nat} (hk : k < xs.length) (hj : j < C.sz) : (C.all xs)[k * C.sz + j]? = (C.cs (C.g xs k))[j]? := by
  induction xs generalizing k with
  | nil => simp at hk
  | cons x xs ih =>
    rw [C.all_cons]
    cases k with
    | zero =>
      rw [List.getElem?_append_left (by rw [C.len]; omega)]
      simp [Codec.g]
    | succ k =>
      rw [List.getElem?_append_right (by rw [C.len, Nat.add_mul]; omega)]
      have := ih (k := k) (by simpa using hk)
      have e : (k + 1) * C.sz + j - (C.cs x).length = k * C.sz + j := by rw [C.len, Nat.add_mul]; omega
      rw [e, this]
      simp [Codec.g]
theorem Codec.all_take (xs : List α) (j : Nat) : C.all (xs.take j) = (C.all xs).take (j * C.sz) := by
  induction xs generalizing j with
  | nil => simp [Codec.all]
  | cons x xs ih =>
    cases j with
    | zero => simp [Codec.all]
    | succ j =>
      rw [List.take_succ_cons, C.all_cons, ih, C.all_cons, List.take_append, C.len, List.take_of_length_le (l := C.cs x) (by rw [C.len, Nat.add_mul]; omega), show (j + 1) * C.sz - C.sz = j * C.sz by rw [Nat.add_mul]; omega]
theorem Codec.all_drop (xs : List α) (j : Nat) : C.all (xs.drop j) = (C.all xs).drop (j * C.sz) := by
  induction xs generalizing j with
  | nil => simp [Codec.all]
  | cons x xs ih =>
    cases j with
    | zero => simp
    | succ j =>
      rw [List.drop_succ_cons, ih, C.all_cons, List.drop_append, C.len, List.drop_of_length_le (l := C.cs x) (by rw [C.len, Nat.add_mul]; omega), List.nil_append, show (j + 1) * C.sz - C.sz = j * C.sz by rw [Nat.add_mul]; omega]

/-- the slice (A, n) reads as the list xs -/
def SAt (w : World) (A : Option Addr) (n : Nat) (xs : List α) : Prop :=
  xs.length = n ∧ (0 < n → ∃ b o, A = some ⟨b, o, none⟩ ∧ ∀ k, k < n → ∀ j u, (C.cs (C.g xs k))[j]? = some u → w.cell? ⟨b, o + k * C.sz + j, none⟩ = some u)
variable {C}
theorem SAt.nil (w : World) (A : Option Addr) : SAt C w A 0 [] := ⟨rfl, fun h => absurd h (by omega)⟩
theorem SAt.drewN {w : World} {A : Option Addr} {n : Nat} {xs : List α} (h : SAt C w A n xs) (m : Nat) : SAt C (w.drewN m) A n xs := h
theorem SAt.drew {w : World} {A : Option Addr} {n : Nat} {xs : List α} (h : SAt C w A n xs) : SAt C w.drew A n xs := h
theorem SAt.at_ {w : World} {A : Option Addr} {n k : Nat} {xs : List α} (h : SAt C w A n xs) (hk : k < n) : ∃ b o, A = some ⟨b, o, none⟩ ∧ ∀ j u, (C.cs (C.g xs k))[j]? = some u → w.cell? ⟨b, o + k * C.sz + j, none⟩ = some u := by
  obtain ⟨b, o, e, hc⟩ := h.2 (by omega)
  exact ⟨b, o, e, hc k hk⟩
theorem SAt.cells {w : World} {b o n k : Nat} {xs : List α} (h : SAt C w (some ⟨b, o, none⟩) n xs) (hk : k < n) : ∀ j u, (C.cs (C.g xs k))[j]? = some u → w.cell? ⟨b, o + k * C.sz + j, none⟩ = some u := by
  obtain ⟨b', o', e, hc⟩ := h.at_ hk
  injection e with e
  injection e with e1 e2
  subst e1 e2
  exact hc
theorem SAt.lt {w : World} {b o n k : Nat} {xs : List α} (h : SAt C w (some ⟨b, o, none⟩) n xs) (hk : k < n) (hs : 0 < C.sz) : b < w.heap.size := by
  have hl := C.len (C.g xs k)
  have := h.cells hk 0 ((C.cs (C.g xs k))[0]'(by omega)) (List.getElem?_eq_getElem _)
  exact cell?_block_lt this
theorem SAt.stays {w w' : World} {A : Option Addr} {n : Nat} {xs : List α} (h : SAt C w A n xs) (hb : Below w.heap.size w w') : SAt C w' A n xs :=
  ⟨h.1, fun hn => by
    obtain ⟨b, o, e, hc⟩ := h.2 hn
    exact ⟨b, o, e, fun k hk j u hu => (hb.cell (p := ⟨b, o + k * C.sz + j, none⟩) (cell?_block_lt (hc k hk j u hu))).trans (hc k hk j u hu)⟩⟩
theorem SAt.alloc {w : World} {A : Option Addr} {n : Nat} {xs : List α} (h : SAt C w A n xs) (o : Obj) : SAt C (w.alloc o) A n xs := h.stays ((Below.refl _ w).alloc (Nat.le_refl _) o)
theorem SAt.take {w : World} {A : Option Addr} {n : Nat} {xs : List α} (h : SAt C w A n xs) {m : Nat} (hm : m ≤ n) : SAt C w A m (xs.take m) :=
  ⟨by rw [List.length_take, h.1]; omega, fun h0 => by
    obtain ⟨b, o, e, hc⟩ := h.2 (by omega)
    exact ⟨b, o, e, fun k hk j u hu => hc k (by omega) j u (by rwa [C.g_of_take hk] at hu)⟩⟩
/-- a slice that the call has made reads as what it owns -/
theorem SAt.own {w : World} {base e n c : Nat} {A : Option Addr} {xs : List α} (h : w.ownsRow base e C.sz (.slice A n c) n (C.all xs)) (hs : 0 < C.sz) : SAt C w A n xs := by
  have hl : xs.length = n := by
    have := h.1
    rw [C.all_len] at this
    exact Nat.eq_of_mul_eq_mul_right hs this
  refine ⟨hl, fun hn => ?_⟩
  obtain ⟨g, cap, hv, _, _⟩ := h.form hn
  have hA : A = some ⟨g, 0, none⟩ := by injection hv
  subst hA
  refine ⟨g, 0, rfl, fun k hk j u hu => ?_⟩
  have hj : j < C.sz := by have := (List.getElem?_eq_some_iff.1 hu).1; rwa [C.len] at this
  have := h.cells (g := g) rfl (k * C.sz + j) u (by rw [C.all_at (by omega) hj]; exact hu)
  rw [Addr.add_lit] at this
  rw [← this]
  congr 2
  omega
theorem ownsRow_slice {w : World} {base e size n : Nat} {v : Value} {xs : List Value} (h : w.ownsRow base e size v n xs) : ∃ A c, v = .slice A n c ∧ n ≤ c := by
  rcases h.2 with ⟨rfl, h0⟩ | ⟨g, cap, cur, rfl, _, _, hc, _⟩
  · exact ⟨none, 0, by rw [h0], by omega⟩
  · exact ⟨_, cap, rfl, hc⟩
/-- what a call that makes a slice leaves -/
def MadeRow (C : Codec α) (w : World) (t : TypeId) (xs : List α) (e : Ending) (w' : World) : Prop :=
  ∃ v : Value, e = .returned v ∧ w'.ownsRow w.heap.size t C.sz v xs.length (C.all xs) ∧ Below w.heap.size w w'
/-- the cells of a new element, ahead of an append -/
theorem cs_new (C : Codec α) (w : World) (x : α) (t : TypeId) (cs : Array Value) (h : cs.toList = C.cs x) : ∀ j u, (C.cs x)[j]? = some u → (w.alloc (.cells cs t)).cell? ((⟨w.heap.size, 0, none⟩ : Addr).add j) = some u := by
  intro j u hu
  rw [Addr.add_lit, World.cell?_alloc_at _ _ _ _ rfl, Nat.zero_add, ← hu, ← h]
  simp
/-- a slice literal -/
theorem own_lit (C : Codec α) (w : World) (base : Nat) (hb : base ≤ w.heap.size) (xs : List α) (n : Nat) (cs : Array Value) (hn : xs.length = n) (hc : cs.toList = C.all xs) (h63 : n ≤ maxLen) (t : TypeId) :
    (w.alloc (.cells cs t)).ownsRow base t C.sz (.slice (some ⟨w.heap.size, 0, none⟩) n n) n (C.all xs) := by
  have hl := C.all_len xs
  have hs : cs.size = n * C.sz := by rw [← Array.length_toList, hc, hl, hn]
  exact ⟨by rw [hl, hn], .inr ⟨w.heap.size, n, cs, rfl, hb, by show (w.heap.push _)[w.heap.size]? = _; simp, Nat.le_refl _, h63, hs, by rw [hc, List.take_of_length_le (Nat.le_of_eq (by rw [hl, hn]))]⟩⟩
theorem ownsRow_stays {W w : World} {base e size n : Nat} {v : Value} {xs : List Value} (h : W.ownsRow base e size v n xs) (hb : Below W.heap.size W w) : w.ownsRow base e size v n xs := by
  refine ⟨h.1, ?_⟩
  rcases h.2 with h | ⟨g, cap, cur, hv, hg, hr, h3⟩
  · exact .inl h
  · exact .inr ⟨g, cap, cur, hv, hg, (hb.block g (Array.getElem?_eq_some_iff.1 hr).1).trans hr, h3⟩
end

section
variable {α : Type} {C : Codec α} {H : Type} {enc : TypeId × Value → H} {P : Program} {w : World} {base : Nat} {spare : Nat → Bool} {held : Bool} {fuel : Nat} {t s e : TypeId} {cs : List Value} {x : DataW H × List MemPlace}
theorem spot_none {a : Addr} {v : Value} (h : w.cell? a = some v) : a.spot = none := by
  unfold World.cell? at h
  split at h
  · split at h
    · cases h
    · rename_i hs; simpa using hs
  · cases h
/-- a struct of one-cell fields, field by field -/
theorem fields_of_trod {fs : Array Field} (ht : P.underlying t = some (.struct fs)) (hone : Go.Deep.oneCellFields P fs = true) (hct : P.cellsOf t = fs.size) (h : DataW.trod enc P w base spare held fuel t cs = some x) :
    cs.length = fs.size ∧ ∀ (j : Nat) (f : Field), fs[j]? = some f → ∃ (v : Value) (y : DataW H × List MemPlace) (n : Nat), cs[j]? = some v ∧ DataW.trod enc P w base spare held n f.type [v] = some y := by
  obtain ⟨ys, n, _, _, hlen, hyl, hf⟩ := DataW.trod_struct ht h
  rw [hct] at hlen
  refine ⟨hlen, fun j f hj => ?_⟩
  obtain ⟨ho, hk⟩ := Go.Deep.hone_of hone j f hj
  have hjl : j < fs.size := (Array.getElem?_eq_some_iff.1 hj).1
  have h1 := hf j f hj
  rw [ho, hk, List.drop_eq_getElem_cons (by omega)] at h1
  simp only [List.take_succ_cons, List.take_zero] at h1
  have hys : ys[j]? = some (ys[j]'(by omega)) := List.getElem?_eq_getElem (by omega)
  exact ⟨_, _, n, List.getElem?_eq_getElem (by omega), h1.trans hys⟩
/-- a slice that came in reads as a list, by its elements -/
theorem sat_of_trod (G : α → Prop) (hs : P.underlying s = some (.slice t)) (hct : P.cellsOf t = C.sz) (hpos : 0 < C.sz)
    (hdec : ∀ (fuel : Nat) (cs : List Value) (x : DataW H × List MemPlace), DataW.trod enc P w base spare held fuel t cs = some x → ∃ a, cs = C.cs a ∧ G a)
    {A : Option Addr} {len cap : Nat} (h : DataW.trod enc P w base spare held fuel s [.slice A len cap] = some x) : (∃ xs, SAt C w A len xs ∧ ∀ a ∈ xs, G a) ∧ len ≤ cap := by
  rcases Go.Deep.open_slice hs h with ⟨hcs, _⟩ | ⟨a, l, c, m, n, D, Pl, hcs, hb, hl, _, hmm, _, hel⟩
  · simp at hcs
    obtain ⟨rfl, rfl, rfl⟩ := hcs
    exact ⟨⟨[], SAt.nil _ _, by simp⟩, Nat.le_refl _⟩
  · simp at hcs
    obtain ⟨rfl, rfl, rfl⟩ := hcs
    have hle : len ≤ m := by rw [hmm]; split <;> omega
    have hv : ∀ i, ∃ v : α, i < len → (∀ j u, (C.cs v)[j]? = some u → w.cell? ((a.add (i * C.sz)).add j) = some u) ∧ G v := by
      intro i
      by_cases hil : i < len
      · obtain ⟨cs', h1, h2⟩ := hel i (by omega)
        obtain ⟨v, rfl, hg⟩ := hdec _ _ _ h2
        rw [hct] at h1
        obtain ⟨_, _, h3⟩ := World.cells?_some h1
        exact ⟨v, fun _ => ⟨fun j u hu => (h3 j (by have := (List.getElem?_eq_some_iff.1 hu).1; rwa [C.len] at this)).trans hu, hg⟩⟩
      · exact ⟨C.d, fun h => absurd h hil⟩
    obtain ⟨f, hf⟩ := Classical.axiomOfChoice hv
    refine ⟨⟨(List.range len).map f, ⟨by simp, fun hn => ?_⟩, fun v hvm => ?_⟩, hl⟩
    · have hl0 := C.len (f 0)
      have h0 := (hf 0 hn).1 0 ((C.cs (f 0))[0]'(by omega)) (List.getElem?_eq_getElem _)
      have hsp : a.spot = none := spot_none (by simpa [Addr.add] using h0)
      obtain ⟨b, o, sp⟩ := a
      simp only at hsp
      subst hsp
      refine ⟨b, o, rfl, fun k hk j u hu => ?_⟩
      have hg : C.g ((List.range len).map f) k = f k := by simp [Codec.g, hk]
      rw [hg] at hu
      have hk' := (hf k hk).1 j u hu
      rw [Addr.add_lit, Addr.add_lit] at hk'
      exact hk'
    · obtain ⟨i, hi, rfl⟩ := List.mem_map.1 hvm
      exact (hf i (List.mem_range.1 hi)).2
end
end Go.Proofs.Ytabhinmodnmllaa
