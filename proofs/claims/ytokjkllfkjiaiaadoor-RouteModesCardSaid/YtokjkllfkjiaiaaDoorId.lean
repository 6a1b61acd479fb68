/-
  Identifiers: the program's check, and which strings pass it.
-/
import Derived.Test.YtokjkllfkjiaiaaDoorRows
import Derived.Test.YtokjkllfkjiaiaaDoorMem
import Derived.Test.YtokjkllfkjiaiaaDoorFn
import Derived.WalkSpells
import Derived.WalkLawsBesides
import Derived.Deep.QuietTactic
import Derived.BigQuiet
namespace Go.Proofs.YtokjkllfkjiaiaaDoor
open Go.RowKit

/-- may the byte stand in an identifier? -/
def idB (c : Nat) : Bool := decide (97 ≤ c ∧ c ≤ 122) || decide (65 ≤ c ∧ c ≤ 90) || decide (48 ≤ c ∧ c ≤ 57) || decide (c = 45) || decide (c = 95) || decide (c = 46)
/-- byte k -/
def byteN (s : ByteArray) (k : Nat) : Nat := (s.data.toList.getD k 0).toNat
/-- is it an identifier? -/
def validB (s : ByteArray) : Bool := decide (1 ≤ s.size ∧ s.size ≤ 32) && decide (firstN (fun k => !idB (byteN s k)) s.size = s.size)
theorem valid_bad {s : ByteArray} {k : Nat} (hk : k < s.size) (h : idB (byteN s k) = false) : validB s = false := by
  unfold validB
  have := firstN_le_of (p := fun k => !idB (byteN s k)) hk (by simp [h])
  have h2 : firstN (fun k => !idB (byteN s k)) s.size ≠ s.size := by omega
  simp [h2]
theorem valid_len {s : ByteArray} (h : ¬ (1 ≤ s.size ∧ s.size ≤ 32)) : validB s = false := by unfold validB; rw [decide_eq_false h, Bool.false_and]
theorem valid_ok {s : ByteArray} (h : 1 ≤ s.size ∧ s.size ≤ 32) (ha : ∀ k, k < s.size → idB (byteN s k) = true) : validB s = true := by
  unfold validB
  rw [decide_eq_true h, firstN_none (fun j hj => by simp [ha j hj])]
  simp
theorem valid_all {s : ByteArray} (ha : ∀ k, k < s.size → idB (byteN s k) = true) : validB s = decide (1 ≤ s.size ∧ s.size ≤ 32) := by
  unfold validB
  rw [firstN_none (fun j hj => by simp [ha j hj])]
  simp

theorem byteN_eq {s : ByteArray} {k : Nat} (h : k < s.size) : byteN s k = s[k].toNat := by
  unfold byteN
  rw [List.getD_eq_getElem?_getD, List.getElem?_eq_getElem (by simpa using h)]
  rfl
/-- the intervals of a byte -/
theorem byte_parts (n : Nat) : (n < 45 ∧ idB n = false) ∨ (n = 45 ∧ idB n = true) ∨ (n = 46 ∧ idB n = true) ∨ (n = 47 ∧ idB n = false) ∨ (48 ≤ n ∧ n ≤ 57 ∧ idB n = true) ∨ (58 ≤ n ∧ n ≤ 64 ∧ idB n = false) ∨ (65 ≤ n ∧ n ≤ 90 ∧ idB n = true) ∨
    (91 ≤ n ∧ n ≤ 94 ∧ idB n = false) ∨ (n = 95 ∧ idB n = true) ∨ (n = 96 ∧ idB n = false) ∨ (97 ≤ n ∧ n ≤ 122 ∧ idB n = true) ∨ (123 ≤ n ∧ idB n = false) := by
  have h : idB n = true ↔ (97 ≤ n ∧ n ≤ 122 ∨ 65 ≤ n ∧ n ≤ 90 ∨ 48 ≤ n ∧ n ≤ 57 ∨ n = 45 ∨ n = 95 ∨ n = 46) := by
    unfold idB
    simp only [Bool.or_eq_true, decide_eq_true_eq]
    omega
  cases hb : idB n
  · have : ¬ (97 ≤ n ∧ n ≤ 122 ∨ 65 ≤ n ∧ n ≤ 90 ∨ 48 ≤ n ∧ n ≤ 57 ∨ n = 45 ∨ n = 95 ∨ n = 46) := by rw [← h, hb]; simp
    simp
    omega
  · have := h.1 hb
    simp
    omega
/-- the bytes before k are good -/
def GoodTo (s : ByteArray) (k : Nat) : Prop := ∀ j, j < k → idB (byteN s j) = true
theorem GoodTo.step {s : ByteArray} {k : Nat} (h : GoodTo s k) (hb : idB (byteN s k) = true) : GoodTo s (k + 1) := fun j hj => by
  by_cases e : j = k
  · subst e; exact hb
  · exact h j (by omega)

set_option maxHeartbeats 1000000 in
theorem valid_any (s : ByteArray) (w : World) (hs : s.size ≤ 9223372036854775807) :
    Calls Tryd.prog 36 #[.string s] w fun e w' => e = .returned (.bool (validB s)) ∧ w = w' := by
  go_enter Tryd.func36, Tryd.ntmps36
  go_wp2
  go_loop [3] (fun i => ∃ k : Nat, k ≤ s.size ∧ i = .int .i64 k ∧ Hid (GoodTo s k)) (fun i => s.size - (intOf i).toNat)
  case atStart => exact ⟨0, by omega, rfl, Lib.hid (fun j hj => absurd hj (by omega))⟩
  case round =>
    obtain ⟨k, hk, rfl, HG⟩ := hrel
    by_cases hlt : k < s.size
    · have k0 : (0 : Int) ≤ (k : Int) := by omega
      have kn : (k : Int) < (s.size : Int) := by omega
      have HE := Lib.hid (byteN_eq hlt)
      rcases byte_parts (byteN s k) with ⟨h1, hb⟩ | ⟨h1, hb⟩ | ⟨h1, hb⟩ | ⟨h1, hb⟩ | ⟨h1, h2, hb⟩ | ⟨h1, h2, hb⟩ | ⟨h1, h2, hb⟩ | ⟨h1, h2, hb⟩ | ⟨h1, hb⟩ | ⟨h1, hb⟩ | ⟨h1, h2, hb⟩ | ⟨h1, hb⟩
      all_goals
        have HBB := Lib.hid hb
        clear hb
        rw [HE.out] at h1
        try rw [HE.out] at h2
        go_wp2
        first
          | (have H := valid_bad hlt HBB.out; go_ret; exact ⟨ret_bool H.symm, rfl⟩)
          | (have H := Lib.hid (HG.out.step HBB.out)
             go_round
             case rel => exact ⟨k + 1, by omega, by go_num, H⟩
             case measure => simp [intOf]; omega)
    · obtain rfl : k = s.size := by omega
      have hd : ¬ ((s.size : Int) < (s.size : Int)) := by omega
      have HV := Lib.hid (valid_all HG.out)
      by_cases h0 : 0 < s.size
      · have h0' : (0 : Int) < (s.size : Int) := by omega
        by_cases h32 : s.size ≤ 32
        · have h32' : (s.size : Int) ≤ 32 := by omega
          go_wp2
          go_ret
          exact ⟨ret_bool (by rw [HV.out]; simp; omega), rfl⟩
        · have h32' : ¬ (s.size : Int) ≤ 32 := by omega
          go_wp2
          go_ret
          exact ⟨ret_bool (by rw [HV.out]; simp; omega), rfl⟩
      · have h0' : ¬ (0 : Int) < (s.size : Int) := by omega
        go_wp2
        go_ret
        exact ⟨ret_bool (by rw [HV.out]; simp; omega), rfl⟩
end Go.Proofs.YtokjkllfkjiaiaaDoor
