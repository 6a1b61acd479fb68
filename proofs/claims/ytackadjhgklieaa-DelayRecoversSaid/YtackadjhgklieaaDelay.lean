/-
  Calls of a trip and their delays: plain lists, no program in sight.
-/
import Derived.Test.YtackadjhgklieaaRec
import Derived.Test.YtackadjhgklieaaFn
namespace Go.Proofs.Ytackadjhgklieaa

/-- a call -/
structure Call where
  /-- the stop -/
  stop : Int
  /-- the arrival -/
  arr : Int
  /-- the departure -/
  dep : Int
  /-- boarding -/
  board : Bool
  /-- alighting -/
  alight : Bool
/-- how a call lies in memory -/
def callC : Codec Call where
  cs c := [.int .i64 c.stop, .int .i64 c.arr, .int .i64 c.dep, .bool c.board, .bool c.alight]
  sz := 5
  d := ⟨0, 0, 0, false, false⟩
  len _ := rfl
  one c u hu := by
    simp at hu
    rcases hu with rfl | rfl | rfl | rfl | rfl <;> rfl
/-- call k -/
def gc (xs : List Call) (k : Nat) : Call := callC.g xs k
/-- its cells as an array -/
abbrev ca (c : Call) : Array Value := #[.int .i64 c.stop, .int .i64 c.arr, .int .i64 c.dep, .bool c.board, .bool c.alight]
theorem call_cells {w : World} {b o n k : Nat} {xs : List Call} (h : SAt callC w (some ⟨b, o, none⟩) n xs) (hk : k < n) :
    w.cell? ⟨b, o + k * 5, none⟩ = some (.int .i64 (gc xs k).stop) ∧ w.cell? ⟨b, o + k * 5 + 1, none⟩ = some (.int .i64 (gc xs k).arr) ∧ w.cell? ⟨b, o + k * 5 + 2, none⟩ = some (.int .i64 (gc xs k).dep) ∧
    w.cell? ⟨b, o + k * 5 + 3, none⟩ = some (.bool (gc xs k).board) ∧ w.cell? ⟨b, o + k * 5 + 4, none⟩ = some (.bool (gc xs k).alight) := by
  have hc := h.cells hk
  exact ⟨hc 0 _ rfl, hc 1 _ rfl, hc 2 _ rfl, hc 3 _ rfl, hc 4 _ rfl⟩

/-- the departure from the call before -/
def prevD (xs : List Call) (k : Nat) : Int := if k = 0 then 0 else (gc xs (k - 1)).dep
/-- is call k in order, if those before it are? -/
def okB (xs : List Call) (k : Nat) : Bool := decide (prevD xs k ≤ (gc xs k).arr ∧ (gc xs k).arr ≤ (gc xs k).dep ∧ (gc xs k).dep ≤ 3155932800)
/-- are the calls ordered? -/
def ordB (xs : List Call) : Bool := decide (firstN (fun k => !okB xs k) xs.length = xs.length)
theorem ord_bad {xs : List Call} {n k : Nat} (hl : xs.length = n) (hk : k < n) (h : okB xs k = false) : ordB xs = false := by
  have := firstN_le_of (p := fun k => !okB xs k) (n := xs.length) (k := k) (by omega) (by simp [h])
  exact decide_eq_false (by omega)
theorem ord_ok {xs : List Call} {n : Nat} (hl : xs.length = n) (h : ∀ k, k < n → okB xs k = true) : ordB xs = true :=
  decide_eq_true (firstN_none fun j hj => by simp [h j (by omega)])
theorem ord_inv {xs : List Call} {n : Nat} (hl : xs.length = n) (h : ordB xs = true) : ∀ k, k < n → okB xs k = true := fun k hk => by
  have h1 := of_decide_eq_true h
  have := firstN_before (p := fun k => !okB xs k) (n := xs.length) (k := k) (by omega)
  simpa using this
/-- the calls before k are in order -/
def Ok (xs : List Call) (k : Nat) : Prop := ∀ j, j < k → okB xs j = true
theorem Ok.step {xs : List Call} {k : Nat} (h : Ok xs k) (h2 : okB xs k = true) : Ok xs (k + 1) := fun j hj => by
  by_cases e : j = k
  · subst e; exact h2
  · exact h j (by omega)
theorem ok_inv {xs : List Call} {k : Nat} (h : okB xs k = true) : prevD xs k ≤ (gc xs k).arr ∧ (gc xs k).arr ≤ (gc xs k).dep ∧ (gc xs k).dep ≤ 3155932800 := of_decide_eq_true h
theorem ok_mk {xs : List Call} {k : Nat} (h1 : prevD xs k ≤ (gc xs k).arr) (h2 : (gc xs k).arr ≤ (gc xs k).dep) (h3 : (gc xs k).dep ≤ 3155932800) : okB xs k = true := decide_eq_true ⟨h1, h2, h3⟩
theorem ok_not {xs : List Call} {k : Nat} (h : ¬ (prevD xs k ≤ (gc xs k).arr ∧ (gc xs k).arr ≤ (gc xs k).dep ∧ (gc xs k).dep ≤ 3155932800)) : okB xs k = false := decide_eq_false h
theorem prev_succ (xs : List Call) (k : Nat) : prevD xs (k + 1) = (gc xs k).dep := by simp [prevD]
theorem prev_nonneg {xs : List Call} {k : Nat} (h : Ok xs k) : 0 ≤ prevD xs k ∧ prevD xs k ≤ 3155932800 := by
  induction k with
  | zero => simp [prevD]
  | succ k ih =>
    have h1 := ih fun j hj => h j (by omega)
    have h2 := ok_inv (h k (by omega))
    rw [prev_succ]
    omega
theorem ok_bounds {xs : List Call} {n k : Nat} (h : Ok xs n) (hk : k < n) : 0 ≤ (gc xs k).arr ∧ (gc xs k).arr ≤ (gc xs k).dep ∧ (gc xs k).dep ≤ 3155932800 ∧ prevD xs k ≤ (gc xs k).arr := by
  have h1 := prev_nonneg (k := k) fun j hj => h j (by omega)
  have h2 := ok_inv (h k hk)
  omega

/-- the dwell -/
def dwellI (c : Call) : Int := if c.dep - c.arr < 30 then c.dep - c.arr else 30
/-- the new arrival at call a + j -/
def nA (xs : List Call) (a : Nat) (s : Int) : Nat → Int
  | 0 => if (gc xs a).arr + s < prevD xs a then prevD xs a else (gc xs a).arr + s
  | j + 1 => (gc xs (a + j + 1)).arr + (if (gc xs (a + j)).dep < nA xs a s j + dwellI (gc xs (a + j)) then nA xs a s j + dwellI (gc xs (a + j)) else (gc xs (a + j)).dep) - (gc xs (a + j)).dep
/-- the new departure -/
def nD (xs : List Call) (a : Nat) (s : Int) (j : Nat) : Int := if (gc xs (a + j)).dep < nA xs a s j + dwellI (gc xs (a + j)) then nA xs a s j + dwellI (gc xs (a + j)) else (gc xs (a + j)).dep
theorem nA_succ (xs : List Call) (a : Nat) (s : Int) (j : Nat) : nA xs a s (j + 1) = (gc xs (a + j + 1)).arr + nD xs a s j - (gc xs (a + j)).dep := rfl
theorem nD_lt {xs : List Call} {a : Nat} {s : Int} {j : Nat} (h : (gc xs (a + j)).dep < nA xs a s j + dwellI (gc xs (a + j))) : nD xs a s j = nA xs a s j + dwellI (gc xs (a + j)) := if_pos h
theorem nD_ge {xs : List Call} {a : Nat} {s : Int} {j : Nat} (h : ¬ (gc xs (a + j)).dep < nA xs a s j + dwellI (gc xs (a + j))) : nD xs a s j = (gc xs (a + j)).dep := if_neg h
/-- the first j rounds stay in time -/
def InTime (xs : List Call) (a : Nat) (s : Int) (j : Nat) : Prop := ∀ i, i < j → nD xs a s i ≤ 3155932800
theorem InTime.step {xs : List Call} {a : Nat} {s : Int} {j : Nat} (h : InTime xs a s j) (h2 : nD xs a s j ≤ 3155932800) : InTime xs a s (j + 1) := fun i hi => by
  by_cases e : i = j
  · subst e; exact h2
  · exact h i (by omega)
theorem dwell_bounds {c : Call} (h1 : c.arr ≤ c.dep) : 0 ≤ dwellI c ∧ dwellI c ≤ 30 ∧ dwellI c ≤ c.dep - c.arr := by
  unfold dwellI
  split <;> omega
theorem nA_bounds {xs : List Call} {n a j : Nat} {s : Int} (h : Ok xs n) (hj : a + j < n) (hs1 : -43200 ≤ s) (hs2 : s ≤ 43200) (ht : InTime xs a s j) : 0 ≤ nA xs a s j ∧ nA xs a s j ≤ 6311908800 := by
  cases j with
  | zero =>
    have h1 := ok_bounds h (k := a) (by omega)
    have h2 := prev_nonneg (k := a) fun i hi => h i (by omega)
    unfold nA
    split <;> omega
  | succ j =>
    have h1 := ok_bounds h (k := a + j) (by omega)
    have h2 := ok_bounds h (k := a + j + 1) (by omega)
    have h3 := ht j (by omega)
    have h4 : (gc xs (a + j)).dep ≤ nD xs a s j := by unfold nD; split <;> omega
    rw [nA_succ]
    omega
/-- what becomes of call i -/
def lateC (xs : List Call) (a : Nat) (s : Int) (i : Nat) : Call := if i < a then gc xs i else ⟨(gc xs i).stop, nA xs a s (i - a), nD xs a s (i - a), (gc xs i).board, (gc xs i).alight⟩
/-- the list, the first i calls changed -/
def curL (xs : List Call) (a : Nat) (s : Int) (i : Nat) : List Call := (List.range xs.length).map fun k => if k < i then lateC xs a s k else gc xs k
theorem cur_len (xs : List Call) (a : Nat) (s : Int) (i : Nat) : (curL xs a s i).length = xs.length := by simp [curL]
theorem cur_at {xs : List Call} {a : Nat} {s : Int} {i k : Nat} (hk : k < xs.length) : gc (curL xs a s i) k = if k < i then lateC xs a s k else gc xs k := by
  unfold gc
  rw [callC.g_eq (by rw [cur_len]; exact hk)]
  simp [curL, gc]
theorem cur_zero {xs : List Call} {a : Nat} {s : Int} : curL xs a s 0 = xs := by
  refine callC.g_ext (cur_len _ _ _ _) fun k hk => ?_
  rw [cur_len] at hk
  have := cur_at (a := a) (s := s) (i := 0) hk
  rwa [if_neg (by omega)] at this
theorem cur_step {xs : List Call} {a : Nat} {s : Int} {i : Nat} (_hi : i < xs.length) : curL xs a s (i + 1) = (curL xs a s i).set i (lateC xs a s i) := by
  apply List.ext_getElem (by simp [cur_len])
  intro k h1 h2
  rw [cur_len] at h1
  rw [List.getElem_set]
  simp only [curL, List.getElem_map, List.getElem_range]
  by_cases e : i = k
  · subst e; simp
  · rw [if_neg e]
    by_cases e2 : k < i
    · rw [if_pos (by omega), if_pos e2]
    · rw [if_neg (by omega), if_neg e2]
theorem cur_skip {xs : List Call} {a : Nat} {s : Int} {i : Nat} (hi : i < a) : curL xs a s (i + 1) = curL xs a s i := by
  unfold curL
  apply List.map_congr_left
  intro k _
  by_cases e : k = i
  · subst e
    rw [if_pos (by omega), if_neg (by omega), lateC, if_pos hi]
  · by_cases e2 : k < i
    · rw [if_pos (by omega), if_pos e2]
    · rw [if_neg (by omega), if_neg e2]
/-- the new arrival, the new departure, of call i -/
def arrI (xs : List Call) (a : Nat) (s : Int) (i : Nat) : Int := nA xs a s (i - a)
def depI (xs : List Call) (a : Nat) (s : Int) (i : Nat) : Int := nD xs a s (i - a)
theorem arr_first (xs : List Call) (a : Nat) (s : Int) : arrI xs a s a = if (gc xs a).arr + s < prevD xs a then prevD xs a else (gc xs a).arr + s := by
  unfold arrI
  rw [Nat.sub_self]
  rfl
theorem arr_skip {xs : List Call} {a : Nat} {s : Int} {i : Nat} (h : i < a) : arrI xs a s (i + 1) = arrI xs a s i := by
  unfold arrI
  rw [show i + 1 - a = 0 by omega, show i - a = 0 by omega]
theorem arr_next {xs : List Call} {a : Nat} {s : Int} {i : Nat} (h : a ≤ i) : arrI xs a s (i + 1) = (gc xs (i + 1)).arr + depI xs a s i - (gc xs i).dep := by
  obtain ⟨j, rfl⟩ : ∃ j, i = a + j := ⟨i - a, by omega⟩
  unfold arrI depI
  rw [show a + j + 1 - a = j + 1 by omega, show a + j - a = j by omega]
  exact nA_succ xs a s j
theorem dep_lt {xs : List Call} {a : Nat} {s : Int} {i : Nat} (hi : a ≤ i) (h : (gc xs i).dep < arrI xs a s i + dwellI (gc xs i)) : depI xs a s i = arrI xs a s i + dwellI (gc xs i) := by
  obtain ⟨j, rfl⟩ : ∃ j, i = a + j := ⟨i - a, by omega⟩
  unfold arrI depI at *
  rw [show a + j - a = j by omega] at *
  exact nD_lt h
theorem dep_ge {xs : List Call} {a : Nat} {s : Int} {i : Nat} (hi : a ≤ i) (h : ¬ (gc xs i).dep < arrI xs a s i + dwellI (gc xs i)) : depI xs a s i = (gc xs i).dep := by
  obtain ⟨j, rfl⟩ : ∃ j, i = a + j := ⟨i - a, by omega⟩
  unfold arrI depI at *
  rw [show a + j - a = j by omega] at *
  exact nD_ge h
theorem late_at {xs : List Call} {a : Nat} {s : Int} {i : Nat} (hi : a ≤ i) : lateC xs a s i = ⟨(gc xs i).stop, arrI xs a s i, depI xs a s i, (gc xs i).board, (gc xs i).alight⟩ := by
  unfold lateC
  rw [if_neg (by omega)]
  rfl
/-- the calls from a to before i depart in time -/
def Timely (xs : List Call) (a : Nat) (s : Int) (i : Nat) : Prop := ∀ k, a ≤ k → k < i → depI xs a s k ≤ 3155932800
theorem Timely.step {xs : List Call} {a : Nat} {s : Int} {i : Nat} (h : Timely xs a s i) (h2 : depI xs a s i ≤ 3155932800) : Timely xs a s (i + 1) := fun k hk hi => by
  by_cases e : k = i
  · subst e; exact h2
  · exact h k hk (by omega)
theorem Timely.skip {xs : List Call} {a : Nat} {s : Int} {i : Nat} (h : i < a) : Timely xs a s (i + 1) := fun k hk hi => absurd hi (by omega)
theorem Timely.inTime {xs : List Call} {a : Nat} {s : Int} {i : Nat} (h : Timely xs a s i) : InTime xs a s (i - a) := fun j hj => by
  have := h (a + j) (by omega) (by omega)
  unfold depI at this
  rwa [show a + j - a = j by omega] at this
theorem arr_bounds {xs : List Call} {n a i : Nat} {s : Int} (h : Ok xs n) (ha : a < n) (hi : i < n) (hs1 : -43200 ≤ s) (hs2 : s ≤ 43200) (ht : Timely xs a s i) : 0 ≤ arrI xs a s i ∧ arrI xs a s i ≤ 6311908800 :=
  nA_bounds h (by omega) hs1 hs2 ht.inTime
/-- the error of Propagate -/
def propE (xs : List Call) (at_ s : Int) : Int :=
  if at_ < 0 ∨ (xs.length : Int) ≤ at_ then 1 else if s < -43200 ∨ 43200 < s then 2 else if ordB xs then (if firstN (fun j => decide (3155932800 < nD xs at_.toNat s j)) (xs.length - at_.toNat) < xs.length - at_.toNat then 10 else 0) else 10
/-- the list that it returns -/
def propL (xs : List Call) (at_ s : Int) : List Call := if propE xs at_ s = 0 then curL xs at_.toNat s xs.length else []
theorem prop_arg {xs : List Call} {at_ s : Int} (h : at_ < 0 ∨ (xs.length : Int) ≤ at_) : propE xs at_ s = 1 ∧ propL xs at_ s = [] := by
  have : propE xs at_ s = 1 := if_pos h
  exact ⟨this, by unfold propL; rw [this]; rfl⟩
theorem prop_range {xs : List Call} {at_ s : Int} (h : ¬ (at_ < 0 ∨ (xs.length : Int) ≤ at_)) (h2 : s < -43200 ∨ 43200 < s) : propE xs at_ s = 2 ∧ propL xs at_ s = [] := by
  have : propE xs at_ s = 2 := by unfold propE; rw [if_neg h, if_pos h2]
  exact ⟨this, by unfold propL; rw [this]; rfl⟩
theorem prop_order {xs : List Call} {at_ s : Int} (h : ¬ (at_ < 0 ∨ (xs.length : Int) ≤ at_)) (h2 : ¬ (s < -43200 ∨ 43200 < s)) (h3 : ordB xs = false) : propE xs at_ s = 10 ∧ propL xs at_ s = [] := by
  have : propE xs at_ s = 10 := by unfold propE; rw [if_neg h, if_neg h2, h3]; rfl
  exact ⟨this, by unfold propL; rw [this]; rfl⟩
theorem prop_late {xs : List Call} {n a : Nat} {s : Int} {j : Nat} (hl : xs.length = n) (ha : a < n) (h2 : ¬ (s < -43200 ∨ 43200 < s)) (h3 : ordB xs = true) (hj : a + j < n) (h4 : 3155932800 < nD xs a s j) : propE xs a s = 10 ∧ propL xs a s = [] := by
  have hf := firstN_le_of (p := fun j => decide (3155932800 < nD xs a s j)) (n := xs.length - a) (k := j) (by omega) (by simp [h4])
  have : propE xs a s = 10 := by unfold propE; rw [if_neg (by omega), if_neg h2, if_pos h3, Int.toNat_natCast, if_pos (by omega)]
  exact ⟨this, by unfold propL; rw [this]; rfl⟩
theorem prop_done {xs : List Call} {n a : Nat} {s : Int} (hl : xs.length = n) (ha : a < n) (h2 : ¬ (s < -43200 ∨ 43200 < s)) (h3 : ordB xs = true) (h4 : InTime xs a s (n - a)) : propE xs a s = 0 ∧ propL xs a s = curL xs a s n := by
  have hf := firstN_none (p := fun j => decide (3155932800 < nD xs a s j)) (n := xs.length - a) (fun j hj => decide_eq_false (by have := h4 j (by omega); omega))
  have : propE xs a s = 0 := by unfold propE; rw [if_neg (by omega), if_neg h2, if_pos h3, Int.toNat_natCast, if_neg (by omega)]
  exact ⟨this, by unfold propL; rw [this, if_pos rfl, hl, Int.toNat_natCast]⟩
theorem prop_late' {xs : List Call} {n a : Nat} {s : Int} {i : Nat} (hl : xs.length = n) (ha : a < n) (h2 : ¬ (s < -43200 ∨ 43200 < s)) (h3 : ordB xs = true) (hi : a ≤ i) (hin : i < n) (h4 : 3155932800 < depI xs a s i) : propE xs a s = 10 ∧ propL xs a s = [] :=
  prop_late (j := i - a) hl ha h2 h3 (by omega) h4
theorem prop_done' {xs : List Call} {n a : Nat} {s : Int} (hl : xs.length = n) (ha : a < n) (h2 : ¬ (s < -43200 ∨ 43200 < s)) (h3 : ordB xs = true) (h4 : Timely xs a s n) : propE xs a s = 0 ∧ propL xs a s = curL xs a s n :=
  prop_done hl ha h2 h3 h4.inTime
end Go.Proofs.Ytackadjhgklieaa
