/-
  Routes and their modes: plain lists and strings, no program in sight.
-/
import Derived.Test.YtokjkllfkjiaiaaDoorRec
import Derived.Test.YtokjkllfkjiaiaaDoorBs
import Derived.Test.YtokjkllfkjiaiaaDoorId
import Derived.Test.YtokjkllfkjiaiaaDoorSeen
namespace Go.Proofs.YtokjkllfkjiaiaaDoor
open Bs (U64 oneN hasB withN)

/-- the name of a mode -/
def nameOf (m : Nat) : ByteArray := ([{ data := #[98, 117, 115] }, { data := #[116, 114, 97, 109] }, { data := #[109, 101, 116, 114, 111] }, { data := #[114, 97, 105, 108] }, { data := #[102, 101, 114, 114, 121] }, { data := #[99, 111, 97, 99, 104] }, { data := #[99, 97, 98, 108, 101] }, { data := #[102, 117, 110, 105, 99, 117, 108, 97, 114] }] : List ByteArray).getD m ByteArray.empty
/-- a route -/
structure Route where
  /-- its identifier -/
  id : ByteArray
  /-- its mode -/
  mode : Int
  /-- are bicycles carried? -/
  bic : Bool
/-- how a route lies in memory -/
def routeC : Codec Route where
  cs c := [.string c.id, .int .i64 c.mode, .bool c.bic]
  sz := 3
  d := ⟨ByteArray.empty, 0, false⟩
  len _ := rfl
  one c u hu := by
    simp at hu
    rcases hu with rfl | rfl | rfl <;> rfl
/-- route k -/
def gr (l : List Route) (k : Nat) : Route := routeC.g l k
theorem gr_mem {l : List Route} {k : Nat} (h : k < l.length) : gr l k ∈ l := routeC.g_mem h
/-- its cells, as an array -/
abbrev routeA (c : Route) : Array Value := #[.string c.id, .int .i64 c.mode, .bool c.bic]
/-- the cells of route k -/
theorem route_cells {w : World} {b o n k : Nat} {l : List Route} (h : SAt routeC w (some ⟨b, o, none⟩) n l) (hk : k < n) :
    w.cell? ⟨b, o + k * 3, none⟩ = some (.string (gr l k).id) ∧ w.cell? ⟨b, o + k * 3 + 1, none⟩ = some (.int .i64 (gr l k).mode) ∧ w.cell? ⟨b, o + k * 3 + 2, none⟩ = some (.bool (gr l k).bic) := by
  have hc := h.cells hk
  exact ⟨hc 0 _ rfl, hc 1 _ rfl, hc 2 _ rfl⟩

/-- is it a mode? -/
def knownB (m : Int) : Bool := decide (0 ≤ m ∧ m < 8)
theorem known_yes {m : Int} (h0 : 0 ≤ m) (h1 : m < 8) : knownB m = true := decide_eq_true ⟨h0, h1⟩
theorem known_low {m : Int} (h : m < 0) : knownB m = false := decide_eq_false (by omega)
theorem known_high {m : Int} (h : 8 ≤ m) : knownB m = false := decide_eq_false (by omega)
theorem known_inv {m : Int} (h : knownB m = true) : 0 ≤ m ∧ m < 8 := of_decide_eq_true h
theorem known_not {m : Int} (h : knownB m = false) : m < 0 ∨ 8 ≤ m := by have := of_decide_eq_false h; omega
/-- the mode with a name -/
def parN (s : ByteArray) : Nat := firstN (fun m => decide (nameOf m = s)) 8
def parI (s : ByteArray) : Int := if parN s < 8 then parN s else 0
def parB (s : ByteArray) : Bool := decide (parN s < 8)
theorem par_at {s : ByteArray} {k : Nat} (hk : k < 8) (h : nameOf k = s) (hb : ∀ j, j < k → nameOf j ≠ s) : parI s = k ∧ parB s = true := by
  have : parN s = k := firstN_eq hk (by simp [h]) (fun j hj => by simp [hb j hj])
  unfold parI parB
  rw [this, if_pos hk, decide_eq_true hk]
  exact ⟨rfl, rfl⟩
theorem par_none {s : ByteArray} (hb : ∀ j, j < 8 → nameOf j ≠ s) : parI s = 0 ∧ parB s = false := by
  have : parN s = 8 := firstN_none (fun j hj => by simp [hb j hj])
  unfold parI parB
  rw [this]
  exact ⟨rfl, rfl⟩
theorem par_name {m : Nat} (h : m < 8) : parI (nameOf m) = m ∧ parB (nameOf m) = true := by
  rcases (by omega : m = 0 ∨ m = 1 ∨ m = 2 ∨ m = 3 ∨ m = 4 ∨ m = 5 ∨ m = 6 ∨ m = 7) with rfl | rfl | rfl | rfl | rfl | rfl | rfl | rfl <;> decide +kernel

/-- the set of the modes of the first k routes -/
def modesTo (l : List Route) : Nat → Nat
  | 0 => 0
  | k + 1 => if knownB (gr l k).mode = true then withN (modesTo l k) (gr l k).mode else modesTo l k
theorem modes_lt (l : List Route) (k : Nat) : modesTo l k < 256 := by
  refine Nat.lt_pow_two_of_testBit (n := 8) _ fun j hj => ?_
  induction k with
  | zero => simp [modesTo]
  | succ k ih =>
    unfold modesTo
    split
    · rename_i h
      have := known_inv h
      rw [Bs.testBit_withN, ih, decide_eq_false (by omega)]
      rfl
    · exact ih
theorem testBit_modes (l : List Route) (j : Nat) : ∀ k, (modesTo l k).testBit j = decide (j < 8 ∧ ∃ i, i < k ∧ (gr l i).mode = (j : Int))
  | 0 => by simp [modesTo]
  | k + 1 => by
    have ih := testBit_modes l j k
    unfold modesTo
    split
    · rename_i h
      have h8 := known_inv h
      rw [Bs.testBit_withN, ih, ← Bool.decide_or]
      apply decide_eq_decide.2
      constructor
      · rintro (⟨h1, i, h2, h3⟩ | ⟨h1, h2⟩)
        · exact ⟨h1, i, by omega, h3⟩
        · exact ⟨by omega, k, by omega, h1⟩
      · rintro ⟨h1, i, h2, h3⟩
        by_cases e : i = k
        · subst e; exact Or.inr ⟨h3, by omega⟩
        · exact Or.inl ⟨h1, i, by omega, h3⟩
    · rename_i h
      rw [ih]
      apply decide_eq_decide.2
      constructor
      · rintro ⟨h1, i, h2, h3⟩
        exact ⟨h1, i, by omega, h3⟩
      · rintro ⟨h1, i, h2, h3⟩
        by_cases e : i = k
        · subst e
          exact absurd (known_yes (by omega) (by omega)) h
        · exact ⟨h1, i, by omega, h3⟩
/-- does the mode m occur among the first k routes? -/
def occB (l : List Route) (m : Int) (k : Nat) : Bool := decide (∃ i, i < k ∧ (gr l i).mode = m)
theorem occ_zero (l : List Route) (m : Int) : occB l m 0 = false := by simp [occB]
theorem occ_step (l : List Route) (m : Int) (k : Nat) : occB l m (k + 1) = (occB l m k || decide ((gr l k).mode = m)) := by
  unfold occB
  rw [← Bool.decide_or]
  apply decide_eq_decide.2
  constructor
  · rintro ⟨i, h1, h2⟩
    by_cases e : i = k
    · subst e; exact Or.inr h2
    · exact Or.inl ⟨i, by omega, h2⟩
  · rintro (⟨i, h1, h2⟩ | h)
    · exact ⟨i, by omega, h2⟩
    · exact ⟨k, by omega, h⟩
/-- the sum of 2^m over the modes that occur below m -/
def sumTo (l : List Route) : Nat → Nat
  | 0 => 0
  | m + 1 => if occB l m l.length = true then sumTo l m + 2 ^ m else sumTo l m
theorem sum_lt (l : List Route) : ∀ m, sumTo l m < 2 ^ m
  | 0 => by simp [sumTo]
  | m + 1 => by
    have := sum_lt l m
    unfold sumTo
    rw [Nat.pow_succ]
    split <;> omega
theorem testBit_sum (l : List Route) (j : Nat) : ∀ m, (sumTo l m).testBit j = (decide (j < m) && occB l j l.length)
  | 0 => by simp [sumTo]
  | m + 1 => by
    have ih := testBit_sum l j m
    have hl := sum_lt l m
    unfold sumTo
    by_cases h : occB l m l.length = true
    · rw [if_pos h, Bs.add_or _ _ (Nat.testBit_lt_two_pow hl), Nat.testBit_or, ih, Nat.testBit_two_pow]
      by_cases e : j = m
      · subst e; simp [h]
      · rw [decide_eq_false (p := m = j) (by omega), Bool.or_false]
        congr 1
        apply decide_eq_decide.2
        omega
    · rw [if_neg h, ih]
      by_cases e : j = m
      · subst e; simp at h; simp [h]
      · congr 1
        apply decide_eq_decide.2
        omega
theorem sum_modes {l : List Route} {n : Nat} (hl : l.length = n) : sumTo l 8 = modesTo l n := by
  subst hl
  apply Nat.eq_of_testBit_eq
  intro j
  rw [testBit_sum, testBit_modes]
  unfold occB
  rw [← Bool.decide_and]

/-- an int as a 64-bit word -/
def w64 (n : Int) : Nat := (IntKind.u64.wrap n).toNat
theorem w64_eq (n : Int) : IntKind.u64.wrap n = ((w64 n : Nat) : Int) := by
  have : 0 ≤ IntKind.u64.wrap n := by unfold IntKind.wrap; simp [IntKind.signed, IntKind.bits]; omega
  unfold w64
  omega
theorem w64_lt (n : Int) : U64 (w64 n) := by
  have : IntKind.u64.wrap n < 18446744073709551616 := by unfold IntKind.wrap; simp [IntKind.signed, IntKind.bits]; omega
  unfold U64 w64
  omega
theorem w64_small {n : Int} (h0 : 0 ≤ n) (h1 : n ≤ 255) : w64 n = n.toNat := by
  unfold w64 IntKind.wrap
  simp [IntKind.signed, IntKind.bits]
  omega
/-- is mode m in the set? -/
def inB (modes m : Int) : Bool := decide (modes = 0) || hasB (w64 modes) m
/-- the routes among the first k whose mode is in a set -/
def withTo (l : List Route) (modes : Int) : Nat → List Int
  | 0 => []
  | k + 1 => if (knownB (gr l k).mode && inB modes (gr l k).mode) = true then withTo l modes k ++ [(k : Int)] else withTo l modes k
theorem with_step (l : List Route) (modes : Int) (k : Nat) : withTo l modes (k + 1) = if (knownB (gr l k).mode && inB modes (gr l k).mode) = true then withTo l modes k ++ [(k : Int)] else withTo l modes k := rfl
theorem with_len (l : List Route) (modes : Int) (k : Nat) : (withTo l modes k).length ≤ k := by
  induction k with
  | zero => simp [withTo]
  | succ k ih =>
    rw [with_step]
    split
    · simp; omega
    · omega
theorem has_255 {m : Int} (h0 : 0 ≤ m) (h1 : m < 8) : hasB 255 m = true := by
  obtain ⟨k, rfl⟩ : ∃ k : Nat, m = (k : Int) := ⟨m.toNat, by omega⟩
  rcases (by omega : k = 0 ∨ k = 1 ∨ k = 2 ∨ k = 3 ∨ k = 4 ∨ k = 5 ∨ k = 6 ∨ k = 7) with rfl | rfl | rfl | rfl | rfl | rfl | rfl | rfl <;> decide
end Go.Proofs.YtokjkllfkjiaiaaDoor
