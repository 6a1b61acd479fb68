/-
  The errors of tables of calendars and of lists of exceptions: plain lists, no program in sight.
-/
import Derived.Test.YtjmjejpfilejdaaCal
import Derived.Test.YtjmjejpfilejdaaSeen
namespace Go.Proofs.Ytjmjejpfilejdaa

/-- the identifiers -/
def idOf (l : List Cal) (k : Nat) : ByteArray := (gcal l k).id
/-- are the days of a calendar wrong? -/
def datesB (c : Cal) : Bool := !dayB c.frm || !dayB c.til || decide (c.til < c.frm)
theorem dates_from {c : Cal} (h : dayB c.frm = false) : datesB c = true := by simp [datesB, h]
theorem dates_til {c : Cal} (h : dayB c.til = false) : datesB c = true := by simp [datesB, h]
theorem dates_turn {c : Cal} (h : c.til < c.frm) : datesB c = true := by simp [datesB, h]
theorem dates_ok {c : Cal} (h1 : dayB c.frm = true) (h2 : dayB c.til = true) (h3 : ¬ c.til < c.frm) : datesB c = false := by simp [datesB, h1, h2]; omega
/-- the error of calendar k -/
def errC (l : List Cal) (k : Nat) : Int := if validB (gcal l k).id then if dupB (idOf l) k then 6 else if datesB (gcal l k) then 11 else 0 else 12
theorem errC_name {l : List Cal} {k : Nat} (h : validB (gcal l k).id = false) : errC l k = 12 := by simp [errC, h]
theorem errC_dup {l : List Cal} {k : Nat} (h : validB (gcal l k).id = true) (h2 : dupB (idOf l) k = true) : errC l k = 6 := by simp [errC, h, h2]
theorem errC_dates {l : List Cal} {k : Nat} (h : validB (gcal l k).id = true) (h2 : dupB (idOf l) k = false) (h3 : datesB (gcal l k) = true) : errC l k = 11 := by simp [errC, h, h2, h3]
theorem errC_zero {l : List Cal} {k : Nat} (h : validB (gcal l k).id = true) (h2 : dupB (idOf l) k = false) (h3 : datesB (gcal l k) = false) : errC l k = 0 := by simp [errC, h, h2, h3]
/-- the calendar and the day of exception k -/
def keyX (x : List Exc) (k : Nat) : Int × Int := ((gx x k).cal, (gx x k).day)
/-- the error of exception k, where there are n calendars -/
def errX (x : List Exc) (n : Int) (k : Nat) : Int := if (gx x k).cal < 0 ∨ n ≤ (gx x k).cal then 9 else if dayB (gx x k).day then if dupB (keyX x) k then 6 else 0 else 11
theorem errX_low {x : List Exc} {n : Int} {k : Nat} (h : (gx x k).cal < 0) : errX x n k = 9 := if_pos (Or.inl h)
theorem errX_high {x : List Exc} {n : Int} {k : Nat} (h : n ≤ (gx x k).cal) : errX x n k = 9 := if_pos (Or.inr h)
theorem errX_day {x : List Exc} {n : Int} {k : Nat} (h1 : ¬ (gx x k).cal < 0) (h2 : ¬ n ≤ (gx x k).cal) (h : dayB (gx x k).day = false) : errX x n k = 11 := by
  unfold errX
  rw [if_neg (by omega), h]
  rfl
theorem errX_dup {x : List Exc} {n : Int} {k : Nat} (h1 : ¬ (gx x k).cal < 0) (h2 : ¬ n ≤ (gx x k).cal) (h : dayB (gx x k).day = true) (hd : dupB (keyX x) k = true) : errX x n k = 6 := by
  unfold errX
  rw [if_neg (by omega), h, hd]
  rfl
theorem errX_zero {x : List Exc} {n : Int} {k : Nat} (h1 : ¬ (gx x k).cal < 0) (h2 : ¬ n ≤ (gx x k).cal) (h : dayB (gx x k).day = true) (hd : dupB (keyX x) k = false) : errX x n k = 0 := by
  unfold errX
  rw [if_neg (by omega), h, hd]
  rfl
theorem key_ne {x : List Exc} {j k : Nat} (h : (gx x j).cal ≠ (gx x k).cal ∨ (gx x j).day ≠ (gx x k).day) : keyX x j ≠ keyX x k := fun e => by
  unfold keyX at e
  injection e with e1 e2
  omega
theorem key_eq {x : List Exc} {j k : Nat} (h1 : (gx x j).cal = (gx x k).cal) (h2 : (gx x j).day = (gx x k).day) : keyX x j = keyX x k := by
  unfold keyX
  rw [h1, h2]
/-- at most 70 calendars, with identifiers of at most 1024 bytes? -/
def namedB (l : List Cal) : Bool := decide (l.length ≤ 70) && decide (firstN (fun k => decide (1024 < (gcal l k).id.size)) l.length = l.length)
theorem named_bad {l : List Cal} {n k : Nat} (hl : l.length = n) (hk : k < n) (h : 1024 < (gcal l k).id.size) : namedB l = false := by
  have := firstN_le_of (p := fun k => decide (1024 < (gcal l k).id.size)) (n := l.length) (k := k) (by omega) (by simp [h])
  unfold namedB
  rw [decide_eq_false (p := firstN _ _ = _) (by omega), Bool.and_false]
theorem named_ok {l : List Cal} {n : Nat} (hl : l.length = n) (hn : n ≤ 70) (h : ∀ k, k < n → ¬ 1024 < (gcal l k).id.size) : namedB l = true := by
  unfold namedB
  rw [decide_eq_true (by omega), firstN_none (fun j hj => by simp; have := h j (by omega); omega)]
  simp
theorem named_big {l : List Cal} {n : Nat} (hl : l.length = n) (hn : 70 < n) : namedB l = false := by
  unfold namedB
  rw [decide_eq_false (by omega), Bool.false_and]
theorem named_len {l : List Cal} (h : namedB l = true) : l.length ≤ 70 := by
  unfold namedB at h
  rw [Bool.and_eq_true] at h
  exact of_decide_eq_true h.1
end Go.Proofs.Ytjmjejpfilejdaa
