/-
  Slices of ints, read as lists: a slice value that lies in memory reads as the list xs. Plain lemmas on worlds and lists; no program in sight.
-/
import Derived.WalkKit
import Derived.Lib.Hide
import Derived.Deep.Draws
import Derived.Laws.OwnMore
import Derived.Deep.AppendLies
namespace Go.Proofs.Ytabhinmodnmllaa
open Go.RowKit

theorem ret_int {k : IntKind} {a b : Int} (h : a = b) : Ending.returned (.int k a) = .returned (.int k b) := by rw [h]
theorem ret_bool {a b : Bool} (h : a = b) : Ending.returned (.bool a) = .returned (.bool b) := by rw [h]

/-- element k (a name, so that simp leaves it alone) -/
def gi (xs : List Int) (k : Nat) : Int := xs.getD k 0
theorem gi_eq {xs : List Int} {k : Nat} (h : k < xs.length) : gi xs k = xs[k] := by simp [gi, h]
theorem gi_some {xs : List Int} {k : Nat} (h : k < xs.length) : xs[k]? = some (gi xs k) := by simp [gi, h]
theorem take_gi {xs : List Int} {k : Nat} (h : k < xs.length) : xs.take (k + 1) = xs.take k ++ [gi xs k] := by
  rw [List.take_succ_eq_append_getElem h, gi_eq h]

/-- the slice (A, n) reads as the list xs of ints -/
def IntsAt (w : World) (A : Option Addr) (n : Nat) (xs : List Int) : Prop :=
  xs.length = n ∧ ∀ k, k < n → ∃ ad, A = some ad ∧ w.cell? (ad.add k) = some (.int .i64 (gi xs k))
theorem IntsAt.nil (w : World) (A : Option Addr) : IntsAt w A 0 [] := ⟨rfl, fun k h => absurd h (by omega)⟩
theorem IntsAt.same {w w' : World} {A : Option Addr} {n : Nat} {xs : List Int} (h : IntsAt w A n xs) (hw : ∀ ad, A = some ad → ∀ k, k < n → w'.cell? (ad.add k) = w.cell? (ad.add k)) : IntsAt w' A n xs :=
  ⟨h.1, fun k hk => by
    obtain ⟨ad, e, hc⟩ := h.2 k hk
    exact ⟨ad, e, (hw ad e k hk).trans hc⟩⟩
theorem IntsAt.drewN {w : World} {A : Option Addr} {n : Nat} {xs : List Int} (h : IntsAt w A n xs) (m : Nat) : IntsAt (w.drewN m) A n xs := h
theorem IntsAt.drew {w : World} {A : Option Addr} {n : Nat} {xs : List Int} (h : IntsAt w A n xs) : IntsAt w.drew A n xs := h
theorem add_block (a : Addr) (n : Nat) : (a.add n).block = a.block := by unfold Addr.add; split <;> rfl
/-- the slice begins in a block below B, if it holds anything -/
def Under (B : Nat) (A : Option Addr) (n : Nat) : Prop := 0 < n → ∀ ad, A = some ad → ad.block < B
theorem IntsAt.below {w w' : World} {B : Nat} {A : Option Addr} {n : Nat} {xs : List Int} (h : IntsAt w A n xs) (hu : Under B A n) (hb : Below B w w') : IntsAt w' A n xs :=
  h.same fun ad e k hk => hb.cell (p := ad.add k) (by rw [add_block]; exact hu (by omega) ad e)
theorem Under.mono {B B' : Nat} {A : Option Addr} {n : Nat} (h : Under B A n) (hB : B ≤ B') : Under B' A n := fun hn ad e => Nat.lt_of_lt_of_le (h hn ad e) hB
/-- a slice that the call has made reads as what it owns -/
theorem IntsAt.own {w : World} {base e n c : Nat} {A : Option Addr} {xs : List Int} (h : w.ownsRow base e 1 (.slice A n c) n (xs.map (Value.int .i64))) : IntsAt w A n xs ∧ Under w.heap.size A n := by
  have hl : xs.length = n := by have := h.1; simpa using this
  refine ⟨⟨hl, fun k hk => ?_⟩, fun hn ad e' => ?_⟩
  · obtain ⟨g, cap, hv, _, hlt⟩ := h.form (by omega)
    have hA : A = some ⟨g, 0, none⟩ := by injection hv
    subst hA
    refine ⟨_, rfl, ?_⟩
    exact h.cells (g := g) rfl k _ (by rw [List.getElem?_map, gi_some (by omega)]; rfl)
  · obtain ⟨g, cap, hv, _, hlt⟩ := h.form hn
    have hA : A = some ⟨g, 0, none⟩ := by injection hv
    rw [hA] at e'
    cases e'
    exact hlt
/-- are two lists the same? (a name) -/
def sameB (xs ys : List Int) : Bool := decide (xs = ys)
theorem sameB_self (xs : List Int) : sameB xs xs = true := by simp [sameB]
theorem sameB_len {xs ys : List Int} (h : xs.length ≠ ys.length) : sameB xs ys = false := by
  simp only [sameB, decide_eq_false_iff_not]
  intro e
  exact h (by rw [e])
theorem sameB_at {xs ys : List Int} {k : Nat} (h : gi xs k ≠ gi ys k) : sameB xs ys = false := by
  simp only [sameB, decide_eq_false_iff_not]
  intro e
  subst e
  exact h rfl
theorem sameB_all {xs ys : List Int} (h : xs.length = ys.length) (h2 : ∀ k, k < xs.length → gi xs k = gi ys k) : sameB xs ys = true := by
  simp only [sameB, decide_eq_true_eq]
  apply List.ext_getElem h
  intro i hi hj
  have := h2 i hi
  rwa [gi_eq hi, gi_eq hj] at this
/-- what a call that makes a slice of ints leaves -/
def MadeInts (w : World) (xs : List Int) (e : Ending) (w' : World) : Prop :=
  ∃ (A : Option Addr) (c : Nat), e = .returned (.slice A xs.length c) ∧ IntsAt w' A xs.length xs ∧ Under w'.heap.size A xs.length ∧ xs.length ≤ c ∧ Below w.heap.size w w' ∧ (0 < xs.length → ∃ g, A = some ⟨g, 0, none⟩)
theorem MadeInts.mk {w w' : World} {base e : Nat} {v : Value} {xs : List Int} (h : w'.ownsRow base e 1 v xs.length (xs.map (Value.int .i64))) (hb : Below w.heap.size w w') : MadeInts w xs (.returned v) w' := by
  obtain ⟨A, c, rfl, hc⟩ : ∃ (A : Option Addr) (c : Nat), v = .slice A xs.length c ∧ xs.length ≤ c := by
    rcases h.2 with ⟨rfl, h0⟩ | ⟨g, cap, cur, rfl, _, _, hc, _⟩
    · exact ⟨none, 0, by rw [h0], by omega⟩
    · exact ⟨_, cap, rfl, hc⟩
  obtain ⟨h1, h2⟩ := IntsAt.own h
  refine ⟨A, c, rfl, h1, h2, hc, hb, fun hn => ?_⟩
  obtain ⟨g, cap, hv, _, _⟩ := h.form hn
  exact ⟨g, by injection hv⟩
/-- the cells of a slice, at places written out -/
theorem IntsAt.at_ {w : World} {g n : Nat} {xs : List Int} (h : IntsAt w (some ⟨g, 0, none⟩) n xs) (k : Nat) (hk : k < n) : w.cell? ⟨g, k, none⟩ = some (.int .i64 (gi xs k)) := by
  obtain ⟨ad, e, hc⟩ := h.2 k hk
  cases e
  rw [Addr.add_lit] at hc
  rw [Nat.zero_add] at hc
  exact hc
/-- a slice literal reads as the list -/
theorem IntsAt.lit (w : World) (t : TypeId) (xs : List Int) : IntsAt (w.alloc (.cells (xs.map (Value.int .i64)).toArray t)) (some ⟨w.heap.size, 0, none⟩) xs.length xs :=
  ⟨rfl, fun k hk => ⟨_, rfl, by
    rw [Addr.add_lit, Nat.zero_add]
    rw [World.cell?_alloc_at _ _ _ _ rfl]
    simp [gi_some hk]⟩⟩
/-- an append to a row of the call's own leaves what lay below B -/
theorem below_app {w W w1 : World} {B base e size k : Nat} {v : Value} {xs : List Value} {tmp : Obj} (hb : Below B w W) (hB : B ≤ W.heap.size) (hbase : B ≤ base) (hown : W.ownsRow base e size v k xs)
    (hg : (W.alloc tmp).grownBy w1 v.ownBlock) : Below B w w1 := by
  refine (hb.alloc hB tmp).grown hg (by simp; omega) fun j ej => ?_
  rcases hown.2 with ⟨rfl, _⟩ | ⟨g, cap, cur, rfl, hb, _, _⟩
  · simp [Value.ownBlock] at ej
  · obtain rfl : g = j := by simpa [Value.ownBlock] using ej
    omega
theorem ownsRow_base {W : World} {b b' e size k : Nat} {v : Value} {xs : List Value} (h : W.ownsRow b e size v k xs) (hb : b' ≤ b) : W.ownsRow b' e size v k xs := by
  refine ⟨h.1, ?_⟩
  rcases h.2 with h | ⟨g, cap, cur, hv, hg, hr⟩
  · exact .inl h
  · exact .inr ⟨g, cap, cur, hv, by omega, hr⟩
theorem ownsRow_not {W : World} {b e size k B : Nat} {v : Value} {xs : List Value} (h : W.ownsRow b e size v k xs) (hB : B < b) : some B ≠ v.ownBlock := by
  rcases h.2 with ⟨rfl, _⟩ | ⟨g, cap, cur, rfl, hg, _⟩
  · simp [Value.ownBlock]
  · intro e
    obtain rfl : B = g := by simpa [Value.ownBlock] using e
    omega
theorem bthen {B : Nat} {w w1 w2 : World} (h : Below B w w1) (h2 : Below w1.heap.size w1 w2) (hB : B ≤ w.heap.size) : Below B w w2 := h.trans (h2.mono (Nat.le_trans hB h.size))
theorem balloc {B : Nat} {w w1 : World} (h : Below B w w1) (o : Obj) (hB : B ≤ w.heap.size) : Below B w (w1.alloc o) := h.alloc (Nat.le_trans hB h.size) o
theorem bdrewN {B : Nat} {w w1 : World} (h : Below B w w1) (n : Nat) : Below B w (w1.drewN n) := ⟨h.os, h.tape, h.output, h.size, h.block⟩
theorem cell?_block_lt {w : World} {a : Addr} {v : Value} (h : w.cell? a = some v) : a.block < w.heap.size := by
  unfold World.cell? at h
  cases hb : w.heap[a.block]? with
  | none => rw [hb] at h; simp at h
  | some o => exact (Array.getElem?_eq_some_iff.1 hb).1
theorem IntsAt.under {w : World} {A : Option Addr} {n : Nat} {xs : List Int} (h : IntsAt w A n xs) : Under w.heap.size A n := fun hn ad e => by
  obtain ⟨ad', e', hc⟩ := h.2 0 hn
  rw [e] at e'
  cases e'
  have := cell?_block_lt hc
  rwa [add_block] at this
theorem IntsAt.stays {w w' : World} {A : Option Addr} {n : Nat} {xs : List Int} (h : IntsAt w A n xs) (hb : Below w.heap.size w w') : IntsAt w' A n xs := h.below h.under hb
theorem IntsAt.take {w : World} {A : Option Addr} {n : Nat} {xs : List Int} (h : IntsAt w A n xs) (m : Nat) (hm : m ≤ n) : IntsAt w A m (xs.take m) :=
  ⟨by rw [List.length_take, h.1]; omega, fun k hk => by
    obtain ⟨ad, e, hc⟩ := h.2 k (by omega)
    refine ⟨ad, e, ?_⟩
    rw [hc]
    simp [gi, hk]⟩
theorem IntsAt.of_row {w : World} {x : Addr} {n c : Nat} {zs : List Int} (hz : zs.length = c) (hl : n ≤ c) (h : ∀ i, i < zs.length → w.cell? (x.add i) = some (.int .i64 (zs.getD i 0))) : IntsAt w (some x) n (zs.take n) := by
  have h0 : IntsAt w (some x) c zs := ⟨hz, fun k hk => ⟨x, rfl, h k (by omega)⟩⟩
  exact h0.take n hl
/-- an int fits its kind -/
def I64 (a : Int) : Prop := -9223372036854775808 ≤ a ∧ a ≤ 9223372036854775807
theorem wf_int {a : Int} (h : (Lit.int .i64 a).wf = true) : I64 a := by
  simpa [I64, Lit.wf, IntKind.min, IntKind.max, IntKind.signed, IntKind.bits] using h
theorem wf_word {a : Int} (h : (Lit.int .u64 a).wf = true) : ∃ n : Nat, a = (n : Int) ∧ n < 18446744073709551616 := by
  have h' : 0 ≤ a ∧ a ≤ 18446744073709551615 := by simpa [Lit.wf, IntKind.min, IntKind.max, IntKind.signed, IntKind.bits] using h
  exact ⟨a.toNat, by omega, by omega⟩
theorem below_own {w W w1 : World} {B base e size k : Nat} {v : Value} {xs : List Value} (hb : Below B w W) (hB : B ≤ W.heap.size) (hbase : B ≤ base) (hown : W.ownsRow base e size v k xs)
    (hg : W.grownBy w1 v.ownBlock) : Below B w w1 := by
  refine hb.grown hg hB fun j ej => ?_
  rcases hown.2 with ⟨rfl, _⟩ | ⟨g, cap, cur, rfl, hb, _, _⟩
  · simp [Value.ownBlock] at ej
  · obtain rfl : g = j := by simpa [Value.ownBlock] using ej
    omega
end Go.Proofs.Ytabhinmodnmllaa
