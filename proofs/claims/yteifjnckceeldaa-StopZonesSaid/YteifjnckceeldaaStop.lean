/-
  Tables of stops: plain lists, no program in sight.
-/
import Derived.Test.YteifjnckceeldaaRec
import Derived.Test.YteifjnckceeldaaBs
namespace Go.Proofs.Yteifjnckceeldaa
open Bs (U64 withN)

/-- a stop -/
structure Stop where
  /-- its identifier -/
  id : ByteArray
  /-- its zone -/
  zone : Int
  /-- is it step-free? -/
  free : Bool
  /-- the time of a change -/
  change : Int
/-- how a stop lies in memory -/
def stopC : Codec Stop where
  cs s := [.string s.id, .int .i64 s.zone, .bool s.free, .int .i64 s.change]
  sz := 4
  d := ⟨ByteArray.empty, 0, false, 0⟩
  len _ := rfl
  one s u hu := by
    simp at hu
    rcases hu with rfl | rfl | rfl | rfl <;> rfl
/-- stop k -/
def gs (xs : List Stop) (k : Nat) : Stop := stopC.g xs k
theorem gs_eq {xs : List Stop} {k : Nat} (h : k < xs.length) : gs xs k = xs[k] := stopC.g_eq h
theorem gs_mem {xs : List Stop} {k : Nat} (h : k < xs.length) : gs xs k ∈ xs := stopC.g_mem h
theorem gs_take {xs : List Stop} {k m : Nat} (h : k < m) : gs (xs.take m) k = gs xs k := stopC.g_of_take h
/-- the cells of stop k -/
theorem stop_cells {w : World} {b o n k : Nat} {xs : List Stop} (h : SAt stopC w (some ⟨b, o, none⟩) n xs) (hk : k < n) :
    w.cell? ⟨b, o + k * 4, none⟩ = some (.string (gs xs k).id) ∧ w.cell? ⟨b, o + k * 4 + 1, none⟩ = some (.int .i64 (gs xs k).zone) ∧ w.cell? ⟨b, o + k * 4 + 2, none⟩ = some (.bool (gs xs k).free) ∧ w.cell? ⟨b, o + k * 4 + 3, none⟩ = some (.int .i64 (gs xs k).change) := by
  have hc := h.cells hk
  exact ⟨hc 0 _ rfl, hc 1 _ rfl, hc 2 _ rfl, hc 3 _ rfl⟩

/-- the least k < n with p k, or n -/
def firstN (p : Nat → Bool) : Nat → Nat
  | 0 => 0
  | n + 1 => if firstN p n < n then firstN p n else if p n then n else n + 1
theorem firstN_le (p : Nat → Bool) (n : Nat) : firstN p n ≤ n := by
  induction n with
  | zero => simp [firstN]
  | succ n ih =>
    unfold firstN
    split
    · omega
    · split <;> omega
theorem firstN_before {p : Nat → Bool} {n k : Nat} (h : k < firstN p n) : p k = false := by
  induction n with
  | zero => simp [firstN] at h
  | succ n ih =>
    unfold firstN at h
    split at h
    · exact ih h
    · rename_i hge
      have hle := firstN_le p n
      split at h
      · exact ih (by omega)
      · rename_i hp
        by_cases e : k = n
        · subst e; simpa using hp
        · exact ih (by omega)
theorem firstN_hit {p : Nat → Bool} {n : Nat} (h : firstN p n < n) : p (firstN p n) = true := by
  induction n with
  | zero => simp at h
  | succ n ih =>
    unfold firstN at h ⊢
    split
    · rename_i h1; exact ih h1
    · split
      · assumption
      · rename_i h1 h2
        rw [if_neg h1, if_neg h2] at h
        omega
theorem firstN_eq {p : Nat → Bool} {n k : Nat} (hk : k < n) (h : p k = true) (hb : ∀ j, j < k → p j = false) : firstN p n = k := by
  rcases Nat.lt_trichotomy (firstN p n) k with h1 | h1 | h1
  · have := firstN_hit (p := p) (n := n) (by omega)
    rw [hb _ h1] at this
    cases this
  · exact h1
  · have := firstN_before (p := p) (n := n) h1
    rw [h] at this
    cases this
theorem firstN_none {p : Nat → Bool} {n : Nat} (hb : ∀ j, j < n → p j = false) : firstN p n = n := by
  have := firstN_le p n
  by_cases h : firstN p n < n
  · have h1 := firstN_hit h
    rw [hb _ h] at h1
    cases h1
  · omega
theorem firstN_le_of {p : Nat → Bool} {n k : Nat} (hk : k < n) (h : p k = true) : firstN p n ≤ k := by
  by_cases hle : firstN p n ≤ k
  · exact hle
  · have := firstN_before (p := p) (n := n) (k := k) (by omega)
    rw [h] at this
    cases this
theorem firstN_congr {p q : Nat → Bool} {n : Nat} (h : ∀ k, k < n → p k = q k) : firstN p n = firstN q n := by
  induction n with
  | zero => rfl
  | succ n ih =>
    have := ih fun k hk => h k (by omega)
    unfold firstN
    rw [this, h n (by omega)]

/-- may the byte stand in an identifier? -/
def idB (c : Nat) : Bool := decide (97 ≤ c ∧ c ≤ 122) || decide (65 ≤ c ∧ c ≤ 90) || decide (48 ≤ c ∧ c ≤ 57) || decide (c = 45) || decide (c = 95) || decide (c = 46)
/-- byte k -/
def byteN (s : ByteArray) (k : Nat) : Nat := (s.data.toList.getD k 0).toNat
/-- is it an identifier? -/
def validB (s : ByteArray) : Bool := decide (1 ≤ s.size ∧ s.size ≤ 32) && decide (firstN (fun k => !idB (byteN s k)) s.size = s.size)
theorem valid_bad {s : ByteArray} {k : Nat} (hk : k < s.size) (h : idB (byteN s k) = false) : validB s = false := by
  unfold validB
  have := firstN_le_of (p := fun k => !idB (byteN s k)) hk (by simp [h])
  have h2 : firstN (fun k => !idB (byteN s k)) s.size ≠ s.size := by omega
  simp [h2]
theorem valid_len {s : ByteArray} (h : ¬ (1 ≤ s.size ∧ s.size ≤ 32)) : validB s = false := by unfold validB; rw [decide_eq_false h, Bool.false_and]
theorem valid_ok {s : ByteArray} (h : 1 ≤ s.size ∧ s.size ≤ 32) (ha : ∀ k, k < s.size → idB (byteN s k) = true) : validB s = true := by
  unfold validB
  rw [decide_eq_true h, firstN_none (fun j hj => by simp [ha j hj])]
  simp
theorem valid_all {s : ByteArray} (ha : ∀ k, k < s.size → idB (byteN s k) = true) : validB s = decide (1 ≤ s.size ∧ s.size ≤ 32) := by
  unfold validB
  rw [firstN_none (fun j hj => by simp [ha j hj])]
  simp

/-- the first stop with the identifier, or the number of stops -/
def findN (xs : List Stop) (id : ByteArray) : Nat := firstN (fun k => decide ((gs xs k).id = id)) xs.length
/-- what Find returns -/
def findI (xs : List Stop) (id : ByteArray) : Int := if findN xs id < xs.length then (findN xs id : Int) else 0
def findB (xs : List Stop) (id : ByteArray) : Bool := decide (findN xs id < xs.length)
/-- what the reference's Find returns -/
def rfindI (xs : List Stop) (id : ByteArray) : Int := if findN xs id < xs.length then (findN xs id : Int) else -1
/-- does the identifier of stop k stand before? -/
def dupB (xs : List Stop) (k : Nat) : Bool := decide (findN xs (gs xs k).id < k)
/-- is a number out of range? -/
def outB (s : Stop) : Bool := decide (s.zone < 0 ∨ 16 ≤ s.zone ∨ s.change < 0 ∨ 3600 < s.change)
/-- the error of stop k -/
def errI (xs : List Stop) (k : Nat) : Int := if validB (gs xs k).id then if dupB xs k then 6 else if outB (gs xs k) then 2 else 0 else 12
/-- the first stop with an error, or the number of stops -/
def badN (xs : List Stop) : Nat := firstN (fun k => decide (errI xs k ≠ 0)) xs.length
/-- the index that Check returns -/
def chkI (xs : List Stop) : Int := if xs.length ≤ 64 ∧ badN xs < xs.length then (badN xs : Int) else 0
/-- the error that Check returns -/
def chkE (xs : List Stop) : Int := if xs.length ≤ 64 then if badN xs < xs.length then errI xs (badN xs) else 0 else 5
theorem err_at {xs : List Stop} {k : Nat} {e : Int} (hl : xs.length ≤ 64) (hk : k < xs.length) (he : errI xs k = e) (h0 : e ≠ 0) (hb : ∀ j, j < k → errI xs j = 0) : chkI xs = k ∧ chkE xs = e := by
  have : badN xs = k := firstN_eq hk (by simp [he, h0]) (fun j hj => by simp [hb j hj])
  unfold chkI chkE
  rw [this, if_pos ⟨hl, hk⟩, if_pos hl, if_pos hk]
  exact ⟨rfl, he⟩
theorem err_none {xs : List Stop} (hl : xs.length ≤ 64) (hb : ∀ j, j < xs.length → errI xs j = 0) : chkI xs = 0 ∧ chkE xs = 0 := by
  have : badN xs = xs.length := firstN_none (fun j hj => by simp [hb j hj])
  unfold chkI chkE
  rw [this, if_neg (by omega), if_pos hl, if_neg (by omega)]
  exact ⟨rfl, rfl⟩
theorem err_big {xs : List Stop} (hl : 64 < xs.length) : chkI xs = 0 ∧ chkE xs = 5 := by
  unfold chkI chkE
  rw [if_neg (by omega), if_neg (by omega)]
  exact ⟨rfl, rfl⟩
theorem err_name {xs : List Stop} {k : Nat} (h : validB (gs xs k).id = false) : errI xs k = 12 := by simp [errI, h]
theorem err_dup {xs : List Stop} {k : Nat} (h : validB (gs xs k).id = true) (h2 : dupB xs k = true) : errI xs k = 6 := by simp [errI, h, h2]
theorem err_range {xs : List Stop} {k : Nat} (h : validB (gs xs k).id = true) (h2 : dupB xs k = false) (h3 : outB (gs xs k) = true) : errI xs k = 2 := by simp [errI, h, h2, h3]
theorem err_zero {xs : List Stop} {k : Nat} (h : validB (gs xs k).id = true) (h2 : dupB xs k = false) (h3 : outB (gs xs k) = false) : errI xs k = 0 := by simp [errI, h, h2, h3]
/-- is the identifier among those of the first k stops? -/
def seenB (xs : List Stop) (k : Nat) (id : ByteArray) : Bool := decide (∃ j, j < k ∧ (gs xs j).id = id)
theorem seen_zero (xs : List Stop) (id : ByteArray) : seenB xs 0 id = false := by simp [seenB]
theorem seen_same (xs : List Stop) (k : Nat) : seenB xs (k + 1) (gs xs k).id = true := by
  simp only [seenB, decide_eq_true_eq]
  exact ⟨k, by omega, rfl⟩
theorem seen_other {xs : List Stop} {k : Nat} {id : ByteArray} (h : (gs xs k).id ≠ id) : seenB xs (k + 1) id = seenB xs k id := by
  unfold seenB
  apply decide_eq_decide.2
  constructor
  · rintro ⟨j, hj, e⟩
    by_cases ek : j = k
    · subst ek; exact absurd e h
    · exact ⟨j, by omega, e⟩
  · rintro ⟨j, hj, e⟩
    exact ⟨j, by omega, e⟩
theorem seen_dup {xs : List Stop} {k : Nat} (hk : k < xs.length) : seenB xs k (gs xs k).id = dupB xs k := by
  unfold seenB dupB findN
  apply decide_eq_decide.2
  constructor
  · rintro ⟨j, hj, e⟩
    have := firstN_le_of (p := fun i => decide ((gs xs i).id = (gs xs k).id)) (n := xs.length) (k := j) (by omega) (by simp [e])
    omega
  · intro h
    have := firstN_hit (p := fun i => decide ((gs xs i).id = (gs xs k).id)) (n := xs.length) (by omega)
    exact ⟨_, h, by simpa using this⟩
theorem dup_rfind {xs : List Stop} {k : Nat} (hk : k < xs.length) : decide (rfindI xs (gs xs k).id < (k : Int)) = dupB xs k := by
  unfold dupB rfindI
  have : findN xs (gs xs k).id ≤ k := firstN_le_of hk (by simp)
  rw [if_pos (by omega)]
  apply decide_eq_decide.2
  omega
theorem rfind_max (xs : List Stop) (id : ByteArray) : max (rfindI xs id) 0 = findI xs id := by
  unfold rfindI findI
  split <;> omega
theorem rfind_ok (xs : List Stop) (id : ByteArray) : decide (0 ≤ rfindI xs id) = findB xs id := by
  unfold rfindI findB
  split
  · rename_i h; simp [h]
  · rename_i h; simp [h]
/-- at most 200 stops, with identifiers of at most 256 bytes? -/
def smallB (xs : List Stop) : Bool := decide (xs.length ≤ 200) && decide (firstN (fun k => decide (256 < (gs xs k).id.size)) xs.length = xs.length)
/-- the zones of the first k stops -/
def zonesTo (xs : List Stop) : Nat → Nat
  | 0 => 0
  | k + 1 => withN (zonesTo xs k) (gs xs k).zone
theorem zones_lt (xs : List Stop) (k : Nat) : U64 (zonesTo xs k) := by
  induction k with
  | zero => show 0 < _; omega
  | succ k ih => exact Bs.withN_lt _ _ ih
/-- the step-free ones among the first k stops -/
def freeTo (xs : List Stop) : Nat → Nat
  | 0 => 0
  | k + 1 => if (gs xs k).free then withN (freeTo xs k) k else freeTo xs k
theorem free_lt (xs : List Stop) (k : Nat) : U64 (freeTo xs k) := by
  induction k with
  | zero => show 0 < _; omega
  | succ k ih =>
    unfold freeTo
    split
    · exact Bs.withN_lt _ _ ih
    · exact ih
theorem free_cut {xs : List Stop} {k : Nat} (h : 64 ≤ k) : freeTo xs k = freeTo xs 64 := by
  induction k with
  | zero => omega
  | succ k ih =>
    by_cases e : k + 1 = 64
    · rw [e]
    · have hk : 64 ≤ k := by omega
      unfold freeTo
      rw [ih hk]
      have : withN (freeTo xs 64) (k : Int) = freeTo xs 64 := by
        unfold withN Bs.oneN
        rw [if_neg (by omega), Nat.or_zero]
      rw [this]
      simp [freeTo]
/-- the stops of a zone among the first k -/
def inTo (xs : List Stop) (z : Int) : Nat → List Int
  | 0 => []
  | k + 1 => if (gs xs k).zone = z then inTo xs z k ++ [(k : Int)] else inTo xs z k
theorem in_len (xs : List Stop) (z : Int) (k : Nat) : (inTo xs z k).length ≤ k := by
  induction k with
  | zero => simp [inTo]
  | succ k ih =>
    unfold inTo
    split
    · simp; omega
    · omega
end Go.Proofs.Yteifjnckceeldaa
