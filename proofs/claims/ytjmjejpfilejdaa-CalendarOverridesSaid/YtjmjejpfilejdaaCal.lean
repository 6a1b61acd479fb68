/-
  Calendars, exceptions, and why a calendar is active on a day: plain lists, no program in sight.
-/
import Derived.Test.YtjmjejpfilejdaaRec
import Derived.Test.YtjmjejpfilejdaaId
namespace Go.Proofs.Ytjmjejpfilejdaa

/-- a calendar -/
structure Cal where
  /-- its identifier -/
  id : ByteArray
  /-- the weekdays -/
  wk : Nat → Bool
  /-- its first day -/
  frm : Int
  /-- its last day -/
  til : Int
/-- how a calendar lies in memory -/
def calC : Codec Cal where
  cs c := [.string c.id, .bool (c.wk 0), .bool (c.wk 1), .bool (c.wk 2), .bool (c.wk 3), .bool (c.wk 4), .bool (c.wk 5), .bool (c.wk 6), .int .i64 c.frm, .int .i64 c.til]
  sz := 10
  d := ⟨ByteArray.empty, fun _ => false, 0, 0⟩
  len _ := rfl
  one c u hu := by
    simp at hu
    rcases hu with rfl | rfl | rfl | rfl | rfl | rfl | rfl | rfl | rfl | rfl <;> rfl
/-- calendar k -/
def gcal (l : List Cal) (k : Nat) : Cal := calC.g l k
theorem gcal_mem {l : List Cal} {k : Nat} (h : k < l.length) : gcal l k ∈ l := calC.g_mem h
/-- its cells, as an array -/
abbrev calA (c : Cal) : Array Value := #[.string c.id, .bool (c.wk 0), .bool (c.wk 1), .bool (c.wk 2), .bool (c.wk 3), .bool (c.wk 4), .bool (c.wk 5), .bool (c.wk 6), .int .i64 c.frm, .int .i64 c.til]
/-- the cells of calendar k -/
theorem cal_cells {w : World} {b o n k : Nat} {l : List Cal} (h : SAt calC w (some ⟨b, o, none⟩) n l) (hk : k < n) :
    w.cell? ⟨b, o + k * 10, none⟩ = some (.string (gcal l k).id) ∧ w.cell? ⟨b, o + k * 10 + 1, none⟩ = some (.bool ((gcal l k).wk 0)) ∧ w.cell? ⟨b, o + k * 10 + 2, none⟩ = some (.bool ((gcal l k).wk 1)) ∧
    w.cell? ⟨b, o + k * 10 + 3, none⟩ = some (.bool ((gcal l k).wk 2)) ∧ w.cell? ⟨b, o + k * 10 + 4, none⟩ = some (.bool ((gcal l k).wk 3)) ∧ w.cell? ⟨b, o + k * 10 + 5, none⟩ = some (.bool ((gcal l k).wk 4)) ∧
    w.cell? ⟨b, o + k * 10 + 6, none⟩ = some (.bool ((gcal l k).wk 5)) ∧ w.cell? ⟨b, o + k * 10 + 7, none⟩ = some (.bool ((gcal l k).wk 6)) ∧ w.cell? ⟨b, o + k * 10 + 8, none⟩ = some (.int .i64 (gcal l k).frm) ∧ w.cell? ⟨b, o + k * 10 + 9, none⟩ = some (.int .i64 (gcal l k).til) := by
  have hc := h.cells hk
  exact ⟨hc 0 _ rfl, hc 1 _ rfl, hc 2 _ rfl, hc 3 _ rfl, hc 4 _ rfl, hc 5 _ rfl, hc 6 _ rfl, hc 7 _ rfl, hc 8 _ rfl, hc 9 _ rfl⟩
theorem cal_wk (c : Cal) {d : Nat} (hd : d < 7) : (calC.cs c)[1 + d]? = some (.bool (c.wk d)) := by
  rcases (by omega : d = 0 ∨ d = 1 ∨ d = 2 ∨ d = 3 ∨ d = 4 ∨ d = 5 ∨ d = 6) with rfl | rfl | rfl | rfl | rfl | rfl | rfl <;> rfl
/-- the cell of a weekday -/
theorem cal_week {w : World} {b o n k d : Nat} {l : List Cal} (h : SAt calC w (some ⟨b, o, none⟩) n l) (hk : k < n) (hd : d < 7) : w.cell? ⟨b, o + k * 10 + 1 + d, none⟩ = some (.bool ((gcal l k).wk d)) := by
  have hc := h.cells hk (1 + d) (.bool ((gcal l k).wk d)) (cal_wk _ hd)
  rw [← Nat.add_assoc] at hc
  exact hc
/-- an exception -/
structure Exc where
  /-- its calendar -/
  cal : Int
  /-- its day -/
  day : Int
  /-- is the day added? -/
  add : Bool
/-- how an exception lies in memory -/
def excC : Codec Exc where
  cs c := [.int .i64 c.cal, .int .i64 c.day, .bool c.add]
  sz := 3
  d := ⟨0, 0, false⟩
  len _ := rfl
  one c u hu := by
    simp at hu
    rcases hu with rfl | rfl | rfl <;> rfl
/-- exception k -/
def gx (x : List Exc) (k : Nat) : Exc := excC.g x k
/-- its cells, as an array -/
abbrev excA (c : Exc) : Array Value := #[.int .i64 c.cal, .int .i64 c.day, .bool c.add]
/-- the cells of exception k -/
theorem exc_cells {w : World} {b o n k : Nat} {x : List Exc} (h : SAt excC w (some ⟨b, o, none⟩) n x) (hk : k < n) :
    w.cell? ⟨b, o + k * 3, none⟩ = some (.int .i64 (gx x k).cal) ∧ w.cell? ⟨b, o + k * 3 + 1, none⟩ = some (.int .i64 (gx x k).day) ∧ w.cell? ⟨b, o + k * 3 + 2, none⟩ = some (.bool (gx x k).add) := by
  have hc := h.cells hk
  exact ⟨hc 0 _ rfl, hc 1 _ rfl, hc 2 _ rfl⟩

/-- is it a day? -/
def dayB (d : Int) : Bool := decide (0 ≤ d ∧ d ≤ 36524)
theorem day_yes {d : Int} (h0 : 0 ≤ d) (h1 : d ≤ 36524) : dayB d = true := decide_eq_true ⟨h0, h1⟩
theorem day_low {d : Int} (h : d < 0) : dayB d = false := decide_eq_false (by omega)
theorem day_high {d : Int} (h : 36524 < d) : dayB d = false := decide_eq_false (by omega)
theorem day_inv {d : Int} (h : dayB d = true) : 0 ≤ d ∧ d ≤ 36524 := of_decide_eq_true h
theorem day_not {d : Int} (h : dayB d = false) : d < 0 ∨ 36524 < d := by have := of_decide_eq_false h; omega
/-- the weekday -/
def wdN (d : Int) : Nat := ((d + 5) % 7).toNat
theorem wd_lt (d : Int) : wdN d < 7 := by unfold wdN; omega
theorem wd_eq (d : Int) : (d + 5) % 7 = (wdN d : Int) := by unfold wdN; omega
theorem wd_week (d : Int) : wdN (d + 7) = wdN d := by unfold wdN; congr 1; omega
/-- does exception k speak of the calendar and the day? -/
def hitB (x : List Exc) (i d : Int) (k : Nat) : Bool := decide ((gx x k).cal = i) && decide ((gx x k).day = d)
/-- the first exception that does -/
def hitN (x : List Exc) (i d : Int) : Nat := firstN (hitB x i d) x.length
/-- why a calendar is active on a day, or not -/
def reasonI (l : List Cal) (x : List Exc) (i d : Int) : Int :=
  if i < 0 ∨ (l.length : Int) ≤ i ∨ dayB d = false then 0
  else if hitN x i d < x.length then (if (gx x (hitN x i d)).add = true then 2 else 3)
  else if d < (gcal l i.toNat).frm ∨ (gcal l i.toNat).til < d then 5
  else if (gcal l i.toNat).wk (wdN d) = true then 1 else 4
/-- no exception before k speaks of it -/
def NoHit (x : List Exc) (i d : Int) (k : Nat) : Prop := ∀ j, j < k → hitB x i d j = false
theorem NoHit.zero (x : List Exc) (i d : Int) : NoHit x i d 0 := fun _ h => absurd h (by omega)
theorem NoHit.step {x : List Exc} {i d : Int} {k : Nat} (h : NoHit x i d k) (h2 : hitB x i d k = false) : NoHit x i d (k + 1) := fun j hj => by
  by_cases e : j = k
  · subst e; exact h2
  · exact h j (by omega)
theorem hit_cal {x : List Exc} {i d : Int} {k : Nat} (h : (gx x k).cal ≠ i) : hitB x i d k = false := by unfold hitB; rw [decide_eq_false h, Bool.false_and]
theorem hit_day {x : List Exc} {i d : Int} {k : Nat} (h : (gx x k).day ≠ d) : hitB x i d k = false := by unfold hitB; rw [decide_eq_false h, Bool.and_false]
theorem hit_yes {x : List Exc} {i d : Int} {k : Nat} (h1 : (gx x k).cal = i) (h2 : (gx x k).day = d) : hitB x i d k = true := by unfold hitB; rw [decide_eq_true h1, decide_eq_true h2]; rfl
theorem hit_at {x : List Exc} {i d : Int} {n k : Nat} (hl : x.length = n) (hk : k < n) (h : NoHit x i d k) (h2 : hitB x i d k = true) : hitN x i d = k := firstN_eq (by omega) h2 h
theorem hit_none {x : List Exc} {i d : Int} {n : Nat} (hl : x.length = n) (h : NoHit x i d n) : hitN x i d = n := by
  subst hl
  exact firstN_none h
theorem reason_low {l : List Cal} {x : List Exc} {i d : Int} (h : i < 0) : reasonI l x i d = 0 := if_pos (Or.inl h)
theorem reason_high {l : List Cal} {x : List Exc} {i d : Int} {n : Nat} (hl : l.length = n) (h : (n : Int) ≤ i) : reasonI l x i d = 0 := if_pos (Or.inr (Or.inl (by omega)))
theorem reason_day {l : List Cal} {x : List Exc} {i d : Int} (h : dayB d = false) : reasonI l x i d = 0 := if_pos (Or.inr (Or.inr h))
theorem reason_known {l : List Cal} {x : List Exc} {d : Int} {n a : Nat} (hl : l.length = n) (ha : a < n) (hd : dayB d = true) : reasonI l x (a : Int) d =
    if hitN x a d < x.length then (if (gx x (hitN x a d)).add = true then 2 else 3) else if d < (gcal l a).frm ∨ (gcal l a).til < d then 5 else if (gcal l a).wk (wdN d) = true then 1 else 4 := by
  unfold reasonI
  rw [if_neg (by rw [hd]; simp; omega), Int.toNat_natCast]
theorem reason_hit {l : List Cal} {x : List Exc} {d : Int} {n m a k : Nat} {b : Bool} (hl : l.length = n) (ha : a < n) (hd : dayB d = true) (hx : x.length = m) (hk : k < m) (h : NoHit x a d k) (h2 : hitB x a d k = true) (hb : (gx x k).add = b) : reasonI l x (a : Int) d = if b then 2 else 3 := by
  rw [reason_known hl ha hd, hit_at hx hk h h2, if_pos (by omega), hb]
theorem reason_out {l : List Cal} {x : List Exc} {d : Int} {n m a : Nat} (hl : l.length = n) (ha : a < n) (hd : dayB d = true) (hx : x.length = m) (h : NoHit x a d m) (ho : d < (gcal l a).frm ∨ (gcal l a).til < d) : reasonI l x (a : Int) d = 5 := by
  rw [reason_known hl ha hd, hit_none hx h, if_neg (by omega), if_pos ho]
theorem reason_week {l : List Cal} {x : List Exc} {d : Int} {n m a : Nat} {b : Bool} (hl : l.length = n) (ha : a < n) (hd : dayB d = true) (hx : x.length = m) (h : NoHit x a d m) (h1 : ¬ d < (gcal l a).frm) (h2 : ¬ (gcal l a).til < d) (hb : (gcal l a).wk (wdN d) = b) : reasonI l x (a : Int) d = if b then 1 else 4 := by
  rw [reason_known hl ha hd, hit_none hx h, if_neg (by omega), if_neg (by omega), hb]
/-- is a calendar active on a day? -/
def actB (l : List Cal) (x : List Exc) (i d : Int) : Bool := decide (reasonI l x i d = 1) || decide (reasonI l x i d = 2)
theorem reason_range (l : List Cal) (x : List Exc) (i d : Int) : reasonI l x i d = 0 ∨ reasonI l x i d = 1 ∨ reasonI l x i d = 2 ∨ reasonI l x i d = 3 ∨ reasonI l x i d = 4 ∨ reasonI l x i d = 5 := by
  unfold reasonI
  split
  · simp
  · split
    · split <;> simp
    · split
      · simp
      · split <;> simp
end Go.Proofs.Ytjmjejpfilejdaa
