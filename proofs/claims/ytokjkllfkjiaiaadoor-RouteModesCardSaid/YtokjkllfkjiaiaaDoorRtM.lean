/-
  Merging: the routes whose mode is in a set, those whose mode is in the complement, and all of them. Plain lists, no program in sight.
-/
import Derived.Test.YtokjkllfkjiaiaaDoorRtX
namespace Go.Proofs.YtokjkllfkjiaiaaDoor
open Bs (U64 oneN hasB withN)

/-- the numbers below k that meet p -/
def selTo (p : Nat → Bool) : Nat → List Int
  | 0 => []
  | k + 1 => if p k = true then selTo p k ++ [(k : Int)] else selTo p k
theorem sel_yes {p : Nat → Bool} {k : Nat} (h : p k = true) : selTo p (k + 1) = selTo p k ++ [(k : Int)] := if_pos h
theorem sel_no {p : Nat → Bool} {k : Nat} (h : p k = false) : selTo p (k + 1) = selTo p k := if_neg (by simp [h])
/-- is route k picked? -/
def pickB (l : List Route) (m : Int) (k : Nat) : Bool := knownB (gr l k).mode && inB m (gr l k).mode
theorem with_sel (l : List Route) (m : Int) : ∀ k, withTo l m k = selTo (pickB l m) k
  | 0 => rfl
  | k + 1 => by
    rw [with_step, with_sel l m k]
    rfl
theorem sel_mono (p : Nat → Bool) (r : Nat) : ∀ n, r ≤ n → (selTo p r).length ≤ (selTo p n).length
  | 0, h => by obtain rfl : r = 0 := by omega
               exact Nat.le_refl _
  | n + 1, h => by
    by_cases e : r = n + 1
    · subst e; exact Nat.le_refl _
    · have := sel_mono p r n (by omega)
      cases hp : p n with
      | true => rw [sel_yes hp]; simp; omega
      | false => rw [sel_no hp]; exact this
theorem sel_get {p : Nat → Bool} {r : Nat} (h : p r = true) : ∀ n, r < n → (selTo p n)[(selTo p r).length]? = some (r : Int)
  | 0, hn => by omega
  | n + 1, hn => by
    by_cases e : r = n
    · subst e
      rw [sel_yes h]
      simp
    · have ih := sel_get h n (by omega)
      cases hp : p n with
      | true =>
        rw [sel_yes hp, List.getElem?_append_left (by exact (List.getElem?_eq_some_iff.1 ih).1)]
        exact ih
      | false => rw [sel_no hp]; exact ih
theorem sel_mem {p : Nat → Bool} {x : Int} : ∀ n, x ∈ selTo p n → ∃ q : Nat, q < n ∧ x = q ∧ p q = true
  | 0, h => by cases h
  | n + 1, h => by
    cases hp : p n with
    | true =>
      rw [sel_yes hp] at h
      rcases List.mem_append.1 h with h | h
      · obtain ⟨q, h1, h2, h3⟩ := sel_mem n h
        exact ⟨q, by omega, h2, h3⟩
      · exact ⟨n, by omega, by simpa using h, hp⟩
    | false =>
      rw [sel_no hp] at h
      obtain ⟨q, h1, h2, h3⟩ := sel_mem n h
      exact ⟨q, by omega, h2, h3⟩
section
variable {a b c : Nat → Bool}
/-- c is a or b, never both -/
def Parted (a b c : Nat → Bool) : Prop := ∀ k, (c k = true ∧ a k = true ∧ b k = false) ∨ (c k = true ∧ a k = false ∧ b k = true) ∨ (c k = false ∧ a k = false ∧ b k = false)
theorem part_len (h : Parted a b c) : ∀ n, (selTo a n).length + (selTo b n).length = (selTo c n).length
  | 0 => rfl
  | n + 1 => by
    have ih := part_len h n
    rcases h n with ⟨h1, h2, h3⟩ | ⟨h1, h2, h3⟩ | ⟨h1, h2, h3⟩
    · rw [sel_yes h1, sel_yes h2, sel_no h3]; simp; omega
    · rw [sel_yes h1, sel_no h2, sel_yes h3]; simp; omega
    · rw [sel_no h1, sel_no h2, sel_no h3]; exact ih
/-- where the merge stands -/
def At (a b c : Nat → Bool) (n i j k : Nat) : Prop := ∃ r, r ≤ n ∧ i = (selTo a r).length ∧ j = (selTo b r).length ∧ k = (selTo c r).length
theorem at_zero (n : Nat) : At a b c n 0 0 0 := ⟨0, by omega, rfl, rfl, rfl⟩
theorem at_next (h : Parted a b c) {n : Nat} {k : Nat} : ∀ (d r : Nat), n - r = d → r ≤ n → k = (selTo c r).length → k < (selTo c n).length →
    ∃ r', r' < n ∧ c r' = true ∧ (selTo a r').length = (selTo a r).length ∧ (selTo b r').length = (selTo b r).length ∧ (selTo c r').length = k
  | 0, r, hd, hr, hk, hlt => by
    obtain rfl : r = n := by omega
    omega
  | d + 1, r, hd, hr, hk, hlt => by
    rcases h r with ⟨h1, h2, h3⟩ | ⟨h1, h2, h3⟩ | ⟨h1, h2, h3⟩
    · exact ⟨r, by omega, h1, rfl, rfl, hk.symm⟩
    · exact ⟨r, by omega, h1, rfl, rfl, hk.symm⟩
    · obtain ⟨r', g1, g2, g3, g4, g5⟩ := at_next h d (r + 1) (by omega) (by omega) (by rw [sel_no h1]; exact hk) hlt
      rw [sel_no h2] at g3
      rw [sel_no h3] at g4
      exact ⟨r', g1, g2, g3, g4, g5⟩
/-- one step of the merge -/
theorem at_step (h : Parted a b c) {n i j k : Nat} (hat : At a b c n i j k) (hk : k < (selTo c n).length) :
    (i < (selTo a n).length ∧ gi (selTo a n) i = gi (selTo c n) k ∧ At a b c n (i + 1) j (k + 1)) ∨
    ((i < (selTo a n).length → gi (selTo a n) i ≠ gi (selTo c n) k) ∧ j < (selTo b n).length ∧ gi (selTo b n) j = gi (selTo c n) k ∧ At a b c n i (j + 1) (k + 1)) := by
  obtain ⟨r0, hr0, hi, hj, hk0⟩ := hat
  obtain ⟨r, h1, h2, h3, h4, h5⟩ := at_next h (n - r0) r0 rfl hr0 hk0 hk
  rw [← hi] at h3
  rw [← hj] at h4
  have hc := sel_get h2 n h1
  rw [h5] at hc
  have gc : gi (selTo c n) k = r := by unfold gi; rw [List.getD, hc]; rfl
  rcases h r with ⟨k1, k2, k3⟩ | ⟨k1, k2, k3⟩ | ⟨k1, k2, k3⟩
  · refine Or.inl ?_
    have ha := sel_get k2 n h1
    rw [h3] at ha
    refine ⟨(List.getElem?_eq_some_iff.1 ha).1, ?_, r + 1, by omega, ?_, ?_, ?_⟩
    · rw [gc]; unfold gi; rw [List.getD, ha]; rfl
    · rw [sel_yes k2]; simp [h3]
    · rw [sel_no k3]; exact h4.symm
    · rw [sel_yes k1]; simp [h5]
  · refine Or.inr ⟨fun hlt e => ?_, ?_⟩
    · have hm : gi (selTo a n) i ∈ selTo a n := by unfold gi; rw [List.getD, List.getElem?_eq_getElem hlt]; exact List.getElem_mem hlt
      rw [e, gc] at hm
      obtain ⟨q, _, q2, q3⟩ := sel_mem n hm
      obtain rfl : r = q := by omega
      rw [k2] at q3
      cases q3
    · have hb := sel_get k3 n h1
      rw [h4] at hb
      refine ⟨(List.getElem?_eq_some_iff.1 hb).1, ?_, r + 1, by omega, ?_, ?_, ?_⟩
      · rw [gc]; unfold gi; rw [List.getD, hb]; rfl
      · rw [sel_no k2]; exact h3.symm
      · rw [sel_yes k3]; simp [h4]
      · rw [sel_yes k1]; simp [h5]
  · rw [k1] at h2; cases h2
end
theorem has_not : (List.range 256).all (fun n => (List.range 8).all fun m => hasB (255 - n) (m : Nat) == !hasB n (m : Nat)) = true := by decide +kernel
theorem parted_modes (l : List Route) {n : Nat} (h0 : 1 ≤ n) (h1 : n ≤ 254) : Parted (pickB l n) (pickB l (255 - n)) (pickB l 0) := by
  intro k
  unfold pickB
  cases hk : knownB (gr l k).mode with
  | false => exact Or.inr (Or.inr ⟨by simp, by simp, by simp⟩)
  | true =>
    have hm := known_inv hk
    obtain ⟨m, hme⟩ : ∃ m : Nat, (gr l k).mode = (m : Int) := ⟨(gr l k).mode.toNat, by omega⟩
    have hh := List.all_eq_true.1 (List.all_eq_true.1 has_not n (List.mem_range.2 (by omega))) m (List.mem_range.2 (by omega))
    simp only [beq_iff_eq] at hh
    have e1 : inB (n : Int) (m : Int) = hasB n (m : Nat) := by
      unfold inB
      rw [w64_small (by omega) (by omega), decide_eq_false (by omega)]
      simp
    have e2 : inB (255 - (n : Int)) (m : Int) = hasB (255 - n) (m : Nat) := by
      unfold inB
      rw [w64_small (by omega) (by omega), decide_eq_false (by omega), show (255 - (n : Int)).toNat = 255 - n by omega]
      simp
    have e3 : inB 0 (m : Int) = true := by simp [inB]
    rw [hme, e1, e2, e3, hh]
    cases hasB n (m : Nat) <;> simp
end Go.Proofs.YtokjkllfkjiaiaaDoor
