/-
  The texts of sets of modes, and the set with a text: strings, no program in sight.
-/
import Derived.Test.YtokjkllfkjiaiaaDoorRt
namespace Go.Proofs.YtokjkllfkjiaiaaDoor
open Bs (U64 oneN hasB withN)

abbrev plusS : ByteArray := { data := #[43] }
abbrev noneS : ByteArray := { data := #[110, 111, 110, 101] }
/-- one more name -/
def addM (s : ByteArray) (m : Nat) : ByteArray := (if s.size = 0 then s else s ++ plusS) ++ nameOf m
/-- the names of the modes below k that are in the set -/
def fmtTo (n : Nat) : Nat → ByteArray
  | 0 => ByteArray.empty
  | k + 1 => if hasB n k = true then addM (fmtTo n k) k else fmtTo n k
def fmtS (m : Int) : ByteArray := if m < 0 ∨ 255 < m then ByteArray.empty else if m = 0 then noneS else fmtTo m.toNat 8
def fmtE (m : Int) : Int := if m < 0 ∨ 255 < m then 2 else 0
theorem fmt_hit {n k : Nat} (h : hasB n k = true) : fmtTo n (k + 1) = addM (fmtTo n k) k := if_pos h
theorem fmt_miss {n k : Nat} (h : hasB n k = false) : fmtTo n (k + 1) = fmtTo n k := if_neg (by simp [h])
theorem fmt_low {m : Int} (h : m < 0) : fmtS m = ByteArray.empty ∧ fmtE m = 2 := ⟨if_pos (Or.inl h), if_pos (Or.inl h)⟩
theorem fmt_high {m : Int} (h : 255 < m) : fmtS m = ByteArray.empty ∧ fmtE m = 2 := ⟨if_pos (Or.inr h), if_pos (Or.inr h)⟩
theorem fmt_zero : fmtS 0 = noneS ∧ fmtE 0 = 0 := ⟨rfl, rfl⟩
theorem fmt_some {n : Nat} (h0 : n ≠ 0) (h1 : n ≤ 255) : fmtS (n : Int) = fmtTo n 8 ∧ fmtE (n : Int) = 0 := by
  unfold fmtS fmtE
  rw [if_neg (by omega), if_neg (by omega), if_neg (by omega), Int.toNat_natCast]
  exact ⟨rfl, rfl⟩
/-- is the byte a letter or a plus? -/
def letB (c : Nat) : Bool := decide (c = 43) || decide (97 ≤ c ∧ c ≤ 122)
/-- what byte i does to the set so far and to the place where the name began -/
def stepP (s : ByteArray) (i : Nat) (st : Nat × Nat) : Option (Nat × Nat) :=
  if i < s.size ∧ letB (byteN s i) = false then none
  else if i < s.size ∧ byteN s i ≠ 43 then some st
  else if parB (s.extract st.2 i) = false ∨ st.1 / 2 ^ parN (s.extract st.2 i) ≠ 0 then none
  else some (st.1 ||| 2 ^ parN (s.extract st.2 i), i + 1)
/-- the state before place i -/
def parseTo (s : ByteArray) : Nat → Option (Nat × Nat)
  | 0 => some (0, 0)
  | i + 1 => (parseTo s i).bind (stepP s i)
def parseI (s : ByteArray) : Int := if s = noneS then 0 else match parseTo s (s.size + 1) with | none => 0 | some st => st.1
def parseE (s : ByteArray) : Int := if s = noneS then 0 else match parseTo s (s.size + 1) with | none => 3 | some _ => 0
theorem fmt_len {n : Nat} (h : ∀ k, k < 8 → n.testBit k = false) : fmtTo n 8 = ByteArray.empty := by
  have : ∀ k, k ≤ 8 → fmtTo n k = ByteArray.empty := by
    intro k
    induction k with
    | zero => intro _; rfl
    | succ k ih =>
      intro hk
      rw [fmt_miss (by rw [Bs.hasB_nat, h k (by omega), Bool.and_false])]
      exact ih (by omega)
  exact this 8 (by omega)
theorem fmt_above {n m : Nat} (hn : n < 2 ^ m) : ∀ k, m ≤ k → fmtTo n k = fmtTo n m := by
  intro k
  induction k with
  | zero => intro h; obtain rfl : m = 0 := by omega
            rfl
  | succ k ih =>
    intro h
    by_cases e : m = k + 1
    · subst e; rfl
    · rw [fmt_miss (by rw [Bs.hasB_nat, Nat.testBit_lt_two_pow (Nat.lt_of_lt_of_le hn (Nat.pow_le_pow_right (by omega) (by omega))), Bool.and_false])]
      exact ih (by omega)
theorem fmt_congr {a b m : Nat} (h : ∀ j, j < m → a.testBit j = b.testBit j) : ∀ k, k ≤ m → fmtTo a k = fmtTo b k := by
  intro k
  induction k with
  | zero => intro _; rfl
  | succ k ih =>
    intro hk
    have e : hasB a k = hasB b k := by rw [Bs.hasB_nat, Bs.hasB_nat, h k (by omega)]
    unfold fmtTo
    rw [e, ih (by omega)]
theorem fmt_add {a m : Nat} (ha : a < 2 ^ m) (hm : m < 8) : fmtTo (a ||| 2 ^ m) 8 = addM (fmtTo a 8) m := by
  have h1 : a ||| 2 ^ m < 2 ^ (m + 1) := by
    have := Nat.or_lt_two_pow (n := m + 1) (x := a) (y := 2 ^ m) (by rw [Nat.pow_succ]; omega) (by rw [Nat.pow_succ]; omega)
    exact this
  rw [fmt_above h1 8 (by omega), fmt_hit (by rw [Bs.hasB_nat, Nat.testBit_or, Nat.testBit_two_pow_self, Bool.or_true, decide_eq_true (by omega)]; rfl), fmt_above ha 8 (by omega),
    fmt_congr (a := a ||| 2 ^ m) (b := a) (m := m) (fun j hj => by rw [Nat.testBit_or, Nat.testBit_two_pow, decide_eq_false (by omega), Bool.or_false]) m (Nat.le_refl _)]
/-- every set of modes is read back from its text -/
theorem back_all : (List.range 256).all (fun n => n == 0 || (parseTo (fmtTo n 8) ((fmtTo n 8).size + 1)).map (·.1) == some n && ((fmtTo n 8).size != 0)) = true := by decide +kernel
end Go.Proofs.YtokjkllfkjiaiaaDoor
