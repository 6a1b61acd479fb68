/-
  What the parser finds is the set whose text it is: strings, no program in sight.
-/
import Derived.Test.YtokjkllfkjiaiaaDoorRtF
import Derived.Lib.SmallJoins
import Derived.Lib.Strings
namespace Go.Proofs.YtokjkllfkjiaiaaDoor
open Bs (U64 oneN hasB withN)

theorem back {n : Nat} (h0 : n ≠ 0) (h1 : n < 256) : (∃ a, parseTo (fmtTo n 8) ((fmtTo n 8).size + 1) = some (n, a)) ∧ (fmtTo n 8).size ≠ 0 := by
  have := List.all_eq_true.1 back_all n (List.mem_range.2 h1)
  simp only [Bool.or_eq_true, Bool.and_eq_true, beq_iff_eq, bne_iff_ne] at this
  rcases this with h | ⟨h, h2⟩
  · exact absurd h h0
  · refine ⟨?_, h2⟩
    cases hp : parseTo (fmtTo n 8) ((fmtTo n 8).size + 1) with
    | none => rw [hp] at h; cases h
    | some st =>
      rw [hp] at h
      injection h with h
      exact ⟨st.2, by rw [← h]⟩
theorem ba_ext {s t : ByteArray} (h : s.data.toList = t.data.toList) : s = t := by
  cases s
  cases t
  congr 1
  exact Array.ext' h
theorem size_list (s : ByteArray) : s.data.toList.length = s.size := by rw [Array.length_toList]; rfl
theorem byte_drop {s : ByteArray} {k : Nat} (h : k < s.size) (hb : byteN s k = 43) : (s.data.toList.drop k).take 1 = [43] := by
  have hl := size_list s
  rw [List.drop_eq_getElem_cons (by omega), List.take_succ_cons, List.take_zero]
  congr 1
  unfold byteN at hb
  rw [List.getD_eq_getElem?_getD, List.getElem?_eq_getElem (by omega)] at hb
  exact UInt8.toNat_inj.1 hb
theorem take3 {α : Type} (l : List α) {k i : Nat} (h : k + 1 ≤ i) : l.take i = l.take k ++ ((l.drop k).take 1 ++ (l.drop (k + 1)).take (i - (k + 1))) := by
  obtain ⟨r, rfl⟩ : ∃ r, i = k + (1 + r) := ⟨i - (k + 1), by omega⟩
  rw [List.take_add, List.take_add, List.drop_drop, show k + (1 + r) - (k + 1) = r by omega]
/-- what the state says of the bytes that were read -/
def Inv (s : ByteArray) (i : Nat) (st : Nat × Nat) : Prop :=
  st.1 < 256 ∧ st.2 ≤ i ∧ ((st.2 = 0 ∧ st.1 = 0) ∨ (0 < st.2 ∧ 0 < st.1 ∧ st.2 ≤ s.size + 1 ∧ (st.2 ≤ s.size → byteN s (st.2 - 1) = 43) ∧ s.data.toList.take (st.2 - 1) = (fmtTo st.1 8).data.toList))
theorem par_lt {s : ByteArray} (h : parB s = true) : parN s < 8 ∧ nameOf (parN s) = s := by
  have h1 := of_decide_eq_true h
  exact ⟨h1, of_decide_eq_true (firstN_hit (p := fun m => decide (nameOf m = s)) h1)⟩
theorem inv_step {s : ByteArray} {i : Nat} {st st' : Nat × Nat} (h : Inv s i st) (hi : i ≤ s.size) (hs : stepP s i st = some st') : Inv s (i + 1) st' := by
  obtain ⟨m, at_⟩ := st
  obtain ⟨h1, h2, h3⟩ := h
  dsimp only at h1 h2 h3
  unfold stepP at hs
  dsimp only at hs
  split at hs
  · cases hs
  · split at hs
    · injection hs with hs
      subst hs
      exact ⟨h1, by dsimp only; omega, h3⟩
    · rename_i hn1 hn2
      split at hs
      · cases hs
      · rename_i hn3
        injection hs with hs
        subst hs
        have hp : parB (s.extract at_ i) = true := by
          cases h : parB (s.extract at_ i)
          · exact absurd (Or.inl h) hn3
          · rfl
        have hd : m / 2 ^ parN (s.extract at_ i) = 0 := by
          by_cases h : m / 2 ^ parN (s.extract at_ i) = 0
          · exact h
          · exact absurd (Or.inr h) hn3
        obtain ⟨hlt, hnm⟩ := par_lt hp
        have hex := Lib.extract_data s at_ i
        generalize parN (s.extract at_ i) = p at hd hlt hnm ⊢
        have hmp : m < 2 ^ p := by
          have := Nat.div_add_mod m (2 ^ p)
          rw [hd] at this
          have := Nat.mod_lt m (show 0 < 2 ^ p from Nat.pow_pos (by omega))
          omega
        have h256 : m ||| 2 ^ p < 2 ^ 8 := Nat.or_lt_two_pow h1 (Nat.pow_lt_pow_right (by omega) hlt)
        have hbyte : i < s.size → byteN s i = 43 := fun hi => by
          by_cases h : byteN s i = 43
          · exact h
          · exact absurd ⟨hi, h⟩ hn2
        refine ⟨h256, Nat.le_refl _, Or.inr ⟨Nat.succ_pos _, ?_, by dsimp only; omega, fun h => ?_, ?_⟩⟩
        · have : 0 < 2 ^ p := Nat.pow_pos (by omega)
          have := Nat.right_le_or (n := m) (m := 2 ^ p)
          dsimp only
          omega
        · dsimp only at h ⊢
          rw [Nat.add_sub_cancel]
          exact hbyte (by omega)
        · dsimp only
          rw [Nat.add_sub_cancel, fmt_add hmp hlt]
          rw [← hnm] at hex
          rcases h3 with ⟨rfl, rfl⟩ | ⟨h4, h5, h6, h7, h8⟩
          · rw [fmt_len (fun k _ => Nat.zero_testBit k)]
            unfold addM
            rw [if_pos (show ByteArray.empty.size = 0 from rfl), Go.Joins.data_append, hex]
            simp
          · unfold addM
            rw [if_neg (by exact (back (by omega) h1).2), Go.Joins.data_append, Go.Joins.data_append, ← h8, hex]
            have hb := byte_drop (s := s) (k := at_ - 1) (by omega) (h7 (by omega))
            have e1 := take3 s.data.toList (k := at_ - 1) (i := i) (by omega)
            rw [show at_ - 1 + 1 = at_ by omega] at e1
            rw [e1, hb, List.append_assoc]
theorem inv_all {s : ByteArray} : ∀ i, i ≤ s.size + 1 → ∀ st, parseTo s i = some st → Inv s i st
  | 0, _, st, h => by
    injection h with h
    subst h
    exact ⟨by decide, Nat.le_refl _, Or.inl ⟨rfl, rfl⟩⟩
  | i + 1, hi, st, h => by
    unfold parseTo at h
    cases hp : parseTo s i with
    | none => rw [hp] at h; cases h
    | some st0 =>
      rw [hp] at h
      exact inv_step (inv_all i (by omega) st0 hp) (by omega) h
theorem parse_end {s : ByteArray} {st : Nat × Nat} (h : parseTo s (s.size + 1) = some st) : st.1 ≠ 0 ∧ st.1 < 256 ∧ st.2 = s.size + 1 ∧ fmtTo st.1 8 = s := by
  have hi := inv_all _ (Nat.le_refl _) st h
  have he : st.2 = s.size + 1 := by
    unfold parseTo at h
    cases hp : parseTo s s.size with
    | none => rw [hp] at h; cases h
    | some st0 =>
      rw [hp] at h
      have h : stepP s s.size st0 = some st := h
      unfold stepP at h
      rw [if_neg (by omega), if_neg (by omega)] at h
      split at h
      · cases h
      · injection h with h
        rw [← h]
  obtain ⟨h1, _, h3⟩ := hi
  rcases h3 with ⟨h4, _⟩ | ⟨_, h5, _, _, h8⟩
  · omega
  · refine ⟨by omega, h1, he, ?_⟩
    apply ba_ext
    rw [← h8, he, Nat.add_sub_cancel, List.take_of_length_le (by rw [size_list]; omega)]
/-- the first set with the text -/
def refN (s : ByteArray) : Nat := firstN (fun n => decide (fmtS (n : Int) = s)) 256
def refI (s : ByteArray) : Int := if refN s < 256 then refN s else 0
def refE (s : ByteArray) : Int := if refN s < 256 then 0 else 3
theorem none_letters : ∀ n, n < 256 → n ≠ 0 → fmtTo n 8 ≠ noneS := by
  have : (List.range 256).all (fun n => n == 0 || decide (fmtTo n 8 ≠ noneS)) = true := by decide +kernel
  intro n h0 h1
  have := List.all_eq_true.1 this n (List.mem_range.2 h0)
  simp only [Bool.or_eq_true, beq_iff_eq, decide_eq_true_eq] at this
  rcases this with h | h
  · exact absurd h h1
  · exact h
theorem parse_ref (s : ByteArray) : parseI s = refI s ∧ parseE s = refE s := by
  by_cases hs : s = noneS
  · have : refN s = 0 := firstN_eq (by omega) (by rw [hs]; decide) (fun j hj => absurd hj (by omega))
    unfold parseI parseE refI refE
    rw [this, if_pos hs, if_pos hs, if_pos (by omega), if_pos (by omega)]
    exact ⟨rfl, rfl⟩
  · unfold parseI parseE
    rw [if_neg hs, if_neg hs]
    have hno : ∀ n : Nat, n < 256 → fmtS (n : Int) = s → ∃ a, parseTo s (s.size + 1) = some (n, a) := fun n hn h => by
      have h0 : n ≠ 0 := fun e => by
        subst e
        exact hs (h.symm.trans fmt_zero.1)
      rw [(fmt_some h0 (by omega)).1] at h
      rw [← h]
      exact (back h0 hn).1
    cases hp : parseTo s (s.size + 1) with
    | none =>
      have : refN s = 256 := firstN_none (fun j hj => decide_eq_false fun h => by
        obtain ⟨a, ha⟩ := hno j hj h
        rw [hp] at ha
        cases ha)
      unfold refI refE
      rw [this]
      exact ⟨rfl, rfl⟩
    | some st =>
      obtain ⟨h1, h2, _, h4⟩ := parse_end hp
      have : refN s = st.1 := firstN_eq h2 (decide_eq_true (by rw [(fmt_some h1 (by omega)).1]; exact h4)) (fun j hj => decide_eq_false fun h => by
        obtain ⟨a, ha⟩ := hno j (by omega) h
        rw [hp] at ha
        injection ha with ha
        rw [ha] at hj
        exact absurd hj (by simp))
      unfold refI refE
      rw [this, if_pos h2, if_pos h2]
      exact ⟨rfl, rfl⟩
end Go.Proofs.YtokjkllfkjiaiaaDoor
