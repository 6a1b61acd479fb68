/-
  Lateness, Slack, Recovered: both.
-/
import Derived.Test.YtackadjhgklieaaDl4
namespace Go.Proofs.Ytackadjhgklieaa
open Go.RowKit

theorem prop_any (A : Option Addr) (n c : Nat) (xs : List Call) (at_ s : Int) (w : World) (hx : SAt callC w A n xs) (hn : n ≤ 1000) :
    Calls Try.prog 11 #[.slice A n c, .int .i64 at_, .int .i64 s] w fun e w' => PropRet xs at_ s w e w' := by
  by_cases h : at_ < 0 ∨ (n : Int) ≤ at_ ∨ s < -43200 ∨ 43200 < s ∨ ordB xs = false
  · exact prop_bad A n c xs at_ s w hx hn h
  · obtain ⟨a, rfl⟩ : ∃ a : Nat, at_ = (a : Int) := ⟨at_.toNat, by omega⟩
    have ho : ordB xs = true := by
      cases hb : ordB xs
      · exact absurd (.inr (.inr (.inr (.inr hb)))) h
      · rfl
    exact prop_good A n c xs a s w hx hn (by omega) (by omega) (by omega) ho
theorem rprop_any (A : Option Addr) (n c : Nat) (xs : List Call) (at_ s : Int) (w : World) (hx : SAt callC w A n xs) (hn : n ≤ 1000) (hc : n ≤ c) :
    Calls Try.prog 12 #[.slice A n c, .int .i64 at_, .int .i64 s] w fun e w' => PropRet xs at_ s w e w' := by
  by_cases h : at_ < 0 ∨ (n : Int) ≤ at_ ∨ s < -43200 ∨ 43200 < s ∨ ordB xs = false
  · exact rprop_bad A n c xs at_ s w hx hn h
  · obtain ⟨a, rfl⟩ : ∃ a : Nat, at_ = (a : Int) := ⟨at_.toNat, by omega⟩
    have ho : ordB xs = true := by
      cases hb : ordB xs
      · exact absurd (.inr (.inr (.inr (.inr hb)))) h
      · rfl
    exact rprop_good A n c xs a s w hx hn hc (by omega) (by omega) (by omega) ho
theorem ret_ib {i j : Int} {a b : Bool} (h : i = j) (h2 : a = b) : Ending.returned (.tuple #[.int .i64 i, .bool a]) = .returned (.tuple #[.int .i64 j, .bool b]) := by rw [h, h2]

/-- what Slack returns -/
def slackB (xs : List Call) (at_ : Int) : Bool := decide (0 ≤ at_ ∧ at_ < (xs.length : Int)) && ordB xs
def slackI (xs : List Call) (at_ : Int) : Int := if slackB xs at_ then (gc xs at_.toNat).dep - (gc xs at_.toNat).arr - dwellI (gc xs at_.toNat) else 0
theorem slack_out {xs : List Call} {at_ : Int} (h : ¬ (0 ≤ at_ ∧ at_ < (xs.length : Int))) : slackI xs at_ = 0 ∧ slackB xs at_ = false := by
  have : slackB xs at_ = false := by unfold slackB; rw [decide_eq_false h, Bool.false_and]
  exact ⟨by unfold slackI; rw [this]; rfl, this⟩
theorem slack_ord {xs : List Call} {at_ : Int} (h : ordB xs = false) : slackI xs at_ = 0 ∧ slackB xs at_ = false := by
  have : slackB xs at_ = false := by unfold slackB; rw [h, Bool.and_false]
  exact ⟨by unfold slackI; rw [this]; rfl, this⟩
theorem slack_ok {xs : List Call} {n a : Nat} (hl : xs.length = n) (ha : a < n) (h : ordB xs = true) : slackI xs a = (gc xs a).dep - (gc xs a).arr - dwellI (gc xs a) ∧ slackB xs a = true := by
  have : slackB xs a = true := by unfold slackB; rw [decide_eq_true (by omega), h]; rfl
  exact ⟨by unfold slackI; rw [this, if_pos rfl, Int.toNat_natCast], this⟩

set_option maxHeartbeats 1000000 in
theorem slack_any (A : Option Addr) (n c : Nat) (xs : List Call) (at_ : Int) (w : World) (hx : SAt callC w A n xs) (hn : n ≤ 1000) :
    Calls Try.prog 16 #[.slice A n c, .int .i64 at_] w fun e w' => e = .returned (.tuple #[.int .i64 (slackI xs at_), .bool (slackB xs at_)]) ∧ Below w.heap.size w w' := by
  have H := Lib.hid hx
  have HL := Lib.hid hx.1
  have r := Below.refl w.heap.size w
  clear hx
  by_cases h1 : at_ < 0
  · have HF := Lib.hid (slack_out (xs := xs) (at_ := at_) (by omega))
    go_enter Try.func16, Try.ntmps16
    go_wp2
    go_ret2
    exact ⟨ret_ib HF.out.1.symm HF.out.2.symm, r⟩
  by_cases h2 : (n : Int) ≤ at_
  · have HF := Lib.hid (slack_out (xs := xs) (at_ := at_) (by rw [HL.out]; omega))
    go_enter Try.func16, Try.ntmps16
    go_wp2
    go_ret2
    exact ⟨ret_ib HF.out.1.symm HF.out.2.symm, r⟩
  obtain ⟨a, rfl⟩ : ∃ a : Nat, at_ = (a : Int) := ⟨at_.toNat, by omega⟩
  have ha : a < n := by omega
  have han : (a : Int) < (n : Int) := by omega
  cases ho : ordB xs
  · have HF := Lib.hid (slack_ord (at_ := (a : Int)) ho)
    go_enter Try.func16, Try.ntmps16
    go_wp2_with fail
    refine (ordered_any _ _ _ xs _ H.out hn).mono ?_
    rintro e w1 ⟨rfl, hb1⟩
    go_wp2
    go_ret2
    exact ⟨ret_ib HF.out.1.symm HF.out.2.symm, hb1⟩
  · have HF := Lib.hid (slack_ok HL.out ha ho)
    have hkb := ok_bounds (ord_ok' HL.out ho) ha
    have hdw := dwell_bounds (c := gc xs a) hkb.2.1
    have HSN : Hid (Sane (gc xs a)) := Lib.hid ⟨hkb.1, hkb.2.1, hkb.2.2.1⟩
    have hw1 : IntKind.i64.wrap ((gc xs a).dep - (gc xs a).arr) = (gc xs a).dep - (gc xs a).arr := wrap64 (by omega) (by omega)
    have hw2 : IntKind.i64.wrap ((gc xs a).dep - (gc xs a).arr - dwellI (gc xs a)) = (gc xs a).dep - (gc xs a).arr - dwellI (gc xs a) := wrap64 (by omega) (by omega)
    obtain ⟨b, o, hA, _⟩ := H.out.at_ ha
    subst hA
    go_enter Try.func16, Try.ntmps16
    go_wp2_with fail
    refine (ordered_any _ _ _ xs _ H.out hn).mono ?_
    rintro e w1 ⟨rfl, hb1⟩
    obtain ⟨c0, c1, c2, c3, c4⟩ := call_cells (H.out.stays hb1) ha
    go_wp2
    obtain ⟨W0, hW0⟩ : ∃ W0, W0 = w1.alloc (.cells #[.int .i64 (gc xs a).stop, .int .i64 (gc xs a).arr, .int .i64 (gc xs a).dep, .bool (gc xs a).board, .bool (gc xs a).alight] 41) := ⟨_, rfl⟩
    rw [← hW0]
    have hX0 : Box5 W0 w1.heap.size (gc xs a) := by rw [hW0]; exact Box5.new w1 (gc xs a) _ _ rfl
    have HB0 : Hid (Below w.heap.size w W0) := Lib.hid (by rw [hW0]; exact balloc hb1 _ (Nat.le_refl _))
    clear hW0 c0 c1 c2 c3 c4
    have hS : Box5 W0.drew w1.heap.size (gc xs a) := hX0.stays (Below.refl _ _).drew
    go_region_held3 (fun u => u.cell? ⟨w1.heap.size, 0, none⟩ = some (.int .i64 (gc xs a).stop) ∧ u.cell? ⟨w1.heap.size, 1, none⟩ = some (.int .i64 (gc xs a).arr) ∧ u.cell? ⟨w1.heap.size, 2, none⟩ = some (.int .i64 (gc xs a).dep) ∧ u.cell? ⟨w1.heap.size, 3, none⟩ = some (.bool (gc xs a).board) ∧ u.cell? ⟨w1.heap.size, 4, none⟩ = some (.bool (gc xs a).alight)) (exact hS) ((first | (go_simp; go_at_call 22; (with_reducible refine (dwell_any (gc xs a) _ HSN.out).mono ?_); rintro e w5 ⟨rfl, hb5⟩; have HB5 := Lib.hid (bthen HB0.out.drew hb5 (Nat.le_refl _)); have hS := hS.stays hb5; clear hb5)))
    all_goals clear hw1 hw2
    all_goals go_wp2
    all_goals go_ret2
    all_goals exact ⟨ret_ib HF.out.1.symm HF.out.2.symm, HB5.out⟩

set_option maxHeartbeats 1000000 in
theorem rslack_any (A : Option Addr) (n c : Nat) (xs : List Call) (at_ : Int) (w : World) (hx : SAt callC w A n xs) (hn : n ≤ 1000) :
    Calls Try.prog 17 #[.slice A n c, .int .i64 at_] w fun e w' => e = .returned (.tuple #[.int .i64 (slackI xs at_), .bool (slackB xs at_)]) ∧ Below w.heap.size w w' := by
  have H := Lib.hid hx
  have HL := Lib.hid hx.1
  have r := Below.refl w.heap.size w
  clear hx
  by_cases h1 : at_ < 0
  · have HF := Lib.hid (slack_out (xs := xs) (at_ := at_) (by omega))
    go_enter Try.func17, Try.ntmps17
    go_wp2
    go_ret2
    exact ⟨ret_ib HF.out.1.symm HF.out.2.symm, r⟩
  by_cases h2 : (n : Int) ≤ at_
  · have HF := Lib.hid (slack_out (xs := xs) (at_ := at_) (by rw [HL.out]; omega))
    go_enter Try.func17, Try.ntmps17
    go_wp2
    go_ret2
    exact ⟨ret_ib HF.out.1.symm HF.out.2.symm, r⟩
  obtain ⟨a, rfl⟩ : ∃ a : Nat, at_ = (a : Int) := ⟨at_.toNat, by omega⟩
  have ha : a < n := by omega
  have han : (a : Int) < (n : Int) := by omega
  cases ho : ordB xs
  · have HF := Lib.hid (slack_ord (at_ := (a : Int)) ho)
    go_enter Try.func17, Try.ntmps17
    go_wp2_with fail
    refine (rordered_any _ _ _ xs _ H.out hn).mono ?_
    rintro e w0 ⟨rfl, q1, rfl⟩
    have hb1 := bdrewN (Below.refl w.heap.size w) q1
    go_wp2
    go_ret2
    exact ⟨ret_ib HF.out.1.symm HF.out.2.symm, hb1⟩
  · have HF := Lib.hid (slack_ok HL.out ha ho)
    have hkb := ok_bounds (ord_ok' HL.out ho) ha
    have hdw := dwell_bounds (c := gc xs a) hkb.2.1
    have HSN : Hid (Sane (gc xs a)) := Lib.hid ⟨hkb.1, hkb.2.1, hkb.2.2.1⟩
    have hw1 : IntKind.i64.wrap ((gc xs a).dep - (gc xs a).arr) = (gc xs a).dep - (gc xs a).arr := wrap64 (by omega) (by omega)
    have hw2 : IntKind.i64.wrap ((gc xs a).dep - (gc xs a).arr - dwellI (gc xs a)) = (gc xs a).dep - (gc xs a).arr - dwellI (gc xs a) := wrap64 (by omega) (by omega)
    obtain ⟨b, o, hA, _⟩ := H.out.at_ ha
    subst hA
    go_enter Try.func17, Try.ntmps17
    go_wp2_with fail
    refine (rordered_any _ _ _ xs _ H.out hn).mono ?_
    rintro e w0 ⟨rfl, q1, rfl⟩
    have hb1 := bdrewN (Below.refl w.heap.size w) q1
    obtain ⟨w1, hw1'⟩ : ∃ w1, w1 = w.drewN q1 := ⟨_, rfl⟩
    rw [← hw1'] at hb1
    go_wp2
    rw [← hw1']
    clear hw1'
    have HB0 := Lib.hid hb1
    have hS := call_cells (H.out.stays (HB0.out.drew)) ha
    go_region_held3 (fun u => u.cell? ⟨b, o + a * 5, none⟩ = some (.int .i64 (gc xs a).stop) ∧ u.cell? ⟨b, o + a * 5 + 1, none⟩ = some (.int .i64 (gc xs a).arr) ∧ u.cell? ⟨b, o + a * 5 + 2, none⟩ = some (.int .i64 (gc xs a).dep) ∧ u.cell? ⟨b, o + a * 5 + 3, none⟩ = some (.bool (gc xs a).board) ∧ u.cell? ⟨b, o + a * 5 + 4, none⟩ = some (.bool (gc xs a).alight)) (exact hS) ((first | (go_simp; go_at_call 25; (with_reducible refine (rdwell_any (gc xs a) _ HSN.out).mono ?_); rintro e w5 ⟨rfl, hb5⟩; have HB5 := Lib.hid (bthen HB0.out.drew hb5 (Nat.le_refl _)); have hS := call_cells (H.out.stays HB5.out) ha; clear hb5)))
    all_goals clear hw1 hw2
    all_goals go_wp2
    all_goals go_ret2
    all_goals exact ⟨ret_ib HF.out.1.symm HF.out.2.symm, HB5.out⟩

/-- what Recovered returns -/
def recN (xs : List Call) (a : Nat) (s : Int) : Nat := firstN (fun j => decide (depI xs a s (a + j) = (gc xs (a + j)).dep)) (xs.length - a)
def recB (xs : List Call) (at_ s : Int) : Bool := decide (propE xs at_ s = 0) && decide (recN xs at_.toNat s < xs.length - at_.toNat)
def recI (xs : List Call) (at_ s : Int) : Int := if recB xs at_ s then at_ + (recN xs at_.toNat s : Int) else 0
theorem rec_err {xs : List Call} {at_ s : Int} (h : propE xs at_ s ≠ 0) : recI xs at_ s = 0 ∧ recB xs at_ s = false := by
  have : recB xs at_ s = false := by unfold recB; rw [decide_eq_false h, Bool.false_and]
  exact ⟨by unfold recI; rw [this]; rfl, this⟩
/-- no call from a to before k departs as scheduled -/
def NoRec (xs : List Call) (a : Nat) (s : Int) (k : Nat) : Prop := ∀ i, a ≤ i → i < k → depI xs a s i ≠ (gc xs i).dep
theorem NoRec.step {xs : List Call} {a : Nat} {s : Int} {k : Nat} (h : NoRec xs a s k) (h2 : depI xs a s k ≠ (gc xs k).dep) : NoRec xs a s (k + 1) := fun i hi hk => by
  by_cases e : i = k
  · subst e; exact h2
  · exact h i hi (by omega)
theorem rec_hit {xs : List Call} {n a k : Nat} {s : Int} (hl : xs.length = n) (h : propE xs a s = 0) (hak : a ≤ k) (hk : k < n) (h2 : depI xs a s k = (gc xs k).dep) (h3 : NoRec xs a s k) : recI xs a s = k ∧ recB xs a s = true := by
  have e : recN xs a s = k - a := firstN_eq (by omega) (by rw [show a + (k - a) = k by omega]; simp [h2]) (fun j hj => decide_eq_false (h3 _ (by omega) (by omega)))
  have : recB xs a s = true := by unfold recB; rw [decide_eq_true h, Int.toNat_natCast, e, decide_eq_true (by omega)]; rfl
  exact ⟨by unfold recI; rw [this, if_pos rfl, Int.toNat_natCast, e]; omega, this⟩
theorem rec_none {xs : List Call} {n a : Nat} {s : Int} (hl : xs.length = n) (h3 : NoRec xs a s n) : recI xs a s = 0 ∧ recB xs a s = false := by
  have e : recN xs a s = xs.length - a := firstN_none (fun j hj => decide_eq_false (h3 _ (by omega) (by omega)))
  have : recB xs a s = false := by unfold recB; rw [Int.toNat_natCast, e, decide_eq_false (p := xs.length - a < xs.length - a) (by omega), Bool.and_false]
  exact ⟨by unfold recI; rw [this]; rfl, this⟩
/-- where Propagate succeeds -/
theorem prop_zero {xs : List Call} {at_ s : Int} (h : propE xs at_ s = 0) : ∃ a : Nat, at_ = (a : Int) ∧ a < xs.length ∧ -43200 ≤ s ∧ s ≤ 43200 ∧ ordB xs = true ∧ Timely xs a s xs.length ∧ propL xs at_ s = curL xs a s xs.length := by
  have h0 := h
  unfold propE at h
  by_cases h1 : at_ < 0 ∨ (xs.length : Int) ≤ at_
  · rw [if_pos h1] at h; cases h
  rw [if_neg h1] at h
  by_cases h2 : s < -43200 ∨ 43200 < s
  · rw [if_pos h2] at h; cases h
  rw [if_neg h2] at h
  cases ho : ordB xs
  · rw [ho] at h; cases h
  rw [ho, if_pos rfl] at h
  obtain ⟨a, rfl⟩ : ∃ a : Nat, at_ = (a : Int) := ⟨at_.toNat, by omega⟩
  rw [Int.toNat_natCast] at h
  have hf : ¬ firstN (fun j => decide (3155932800 < nD xs a s j)) (xs.length - a) < xs.length - a := fun hlt => by rw [if_pos hlt] at h; cases h
  have ht : Timely xs a s xs.length := fun k hk hkn => by
    have := firstN_before (p := fun j => decide (3155932800 < nD xs a s j)) (n := xs.length - a) (k := k - a) (by omega)
    have := of_decide_eq_false this
    unfold depI
    omega
  exact ⟨a, rfl, by omega, by omega, by omega, rfl, ht, by unfold propL; rw [h0, if_pos rfl, Int.toNat_natCast]⟩

set_option maxHeartbeats 1000000 in
theorem rec_any (A : Option Addr) (n c : Nat) (xs : List Call) (at_ s : Int) (w : World) (hx : SAt callC w A n xs) (hn : n ≤ 1000) (hc : n ≤ c) :
    Calls Try.prog 18 #[.slice A n c, .int .i64 at_, .int .i64 s] w fun e w' => e = .returned (.tuple #[.int .i64 (recI xs at_ s), .bool (recB xs at_ s)]) ∧ Below w.heap.size w w' := by
  have H := Lib.hid hx
  have HL := Lib.hid hx.1
  have r := Below.refl w.heap.size w
  clear hx
  by_cases he : propE xs at_ s = 0
  · obtain ⟨a, rfl, ha, hs1, hs2, ho, ht, hp⟩ := prop_zero he
    rw [HL.out] at ha ht hp
    have HE := Lib.hid he
    have HP := Lib.hid hp
    have HT := Lib.hid ht
    have HO := Lib.hid ho
    clear hp ht ho he
    have a0 : (0 : Int) ≤ (a : Int) := by omega
    obtain ⟨b, o, hA, _⟩ := H.out.at_ ha
    subst hA
    go_enter Try.func18, Try.ntmps18
    go_wp2_with fail
    refine (prop_any _ _ _ xs a s _ H.out hn).mono ?_
    rintro e w1 ⟨v1, rfl, hr1, hb1⟩
    rw [HE.out]
    rw [HP.out, cur_len, HL.out] at hr1
    obtain ⟨A1, c1, rfl, hc1⟩ := ownsRow_slice hr1
    have hr1' : SAt callC w1 A1 n (curL xs a s n) := SAt.own hr1 (by decide)
    have HR := Lib.hid hr1'
    have H1 := Lib.hid (H.out.stays hb1)
    clear hr1 hr1'
    obtain ⟨b1, o1, hA, _⟩ := HR.out.at_ ha
    subst hA
    go_wp2
    go_loopw [10] (fun i wr => ∃ k q : Nat, k ≤ n ∧ a ≤ k ∧ i = .int .i64 k ∧ wr = w1.drewN q ∧ Hid (NoRec xs a s k)) (fun i _ => n - (intOf i).toNat)
    case atStart => exact ⟨a, 0, by omega, Nat.le_refl _, rfl, rfl, Lib.hid (fun i h1 h2 => absurd h2 (by omega))⟩
    case round =>
      obtain ⟨k, q, hk, hak, rfl, rfl, HA⟩ := hrel
      by_cases hlt : k < n
      · have k0 : (0 : Int) ≤ (k : Int) := by omega
        have kn : (k : Int) < (n : Int) := by omega
        obtain ⟨c0, cc1, c2, c3, c4⟩ := call_cells H1.out hlt
        obtain ⟨d0, d1, d2, d3, d4⟩ := call_cells HR.out hlt
        rw [show gc (curL xs a s n) k = lateC xs a s k by rw [cur_at (by rw [HL.out]; exact hlt), if_pos hlt], late_at hak] at d2
        clear c0 cc1 c3 c4 d0 d1 d3 d4
        by_cases h5 : depI xs a s k = (gc xs k).dep
        · have HF := Lib.hid (rec_hit HL.out HE.out hak hlt h5 HA.out)
          have h6 : (depI xs a s k == (gc xs k).dep) = true := by simpa using h5
          have HQ := Lib.hid h5
          clear h5
          go_wp2
          go_quiet (fail)
          go_wp2
          go_ret2
          exact ⟨ret_ib HF.out.1.symm HF.out.2.symm, bdrewN (bdrewN hb1 _) _⟩
        · have HF := Lib.hid (HA.out.step h5)
          have h6 : (depI xs a s k == (gc xs k).dep) = false := by simpa using h5
          clear h5
          go_wp2
          go_quiet (fail)
          go_wp2
          go_roundw
          case rel => exact ⟨k + 1, _, by omega, by omega, by go_num, rfl, HF⟩
          case measure => simp [intOf]; omega
      · obtain rfl : k = n := by omega
        have hd : ¬ ((k : Int) < (k : Int)) := by omega
        have HF := Lib.hid (rec_none HL.out HA.out)
        go_wp2
        go_ret2
        exact ⟨ret_ib HF.out.1.symm HF.out.2.symm, bdrewN hb1 _⟩
  · have HF := Lib.hid (rec_err he)
    have he' : (propE xs at_ s != 0) = true := by simpa using he
    go_enter Try.func18, Try.ntmps18
    go_wp2_with fail
    refine (prop_any _ _ _ xs at_ s _ H.out hn).mono ?_
    rintro e w1 ⟨v1, rfl, hr1, hb1⟩
    clear hr1 he
    go_wp2
    go_ret2
    exact ⟨ret_ib HF.out.1.symm HF.out.2.symm, hb1⟩

set_option maxHeartbeats 1000000 in
theorem rrec_any (A : Option Addr) (n c : Nat) (xs : List Call) (at_ s : Int) (w : World) (hx : SAt callC w A n xs) (hn : n ≤ 1000) (hc : n ≤ c) :
    Calls Try.prog 19 #[.slice A n c, .int .i64 at_, .int .i64 s] w fun e w' => e = .returned (.tuple #[.int .i64 (recI xs at_ s), .bool (recB xs at_ s)]) ∧ Below w.heap.size w w' := by
  have H := Lib.hid hx
  have HL := Lib.hid hx.1
  have r := Below.refl w.heap.size w
  clear hx
  by_cases he : propE xs at_ s = 0
  · obtain ⟨a, rfl, ha, hs1, hs2, ho, ht, hp⟩ := prop_zero he
    rw [HL.out] at ha ht hp
    have HE := Lib.hid he
    have HP := Lib.hid hp
    have HT := Lib.hid ht
    have HO := Lib.hid ho
    clear hp ht ho he
    have a0 : (0 : Int) ≤ (a : Int) := by omega
    obtain ⟨b, o, hA, _⟩ := H.out.at_ ha
    subst hA
    go_enter Try.func19, Try.ntmps19
    go_wp2_with fail
    refine (rprop_any _ _ _ xs a s _ H.out hn hc).mono ?_
    rintro e w1 ⟨v1, rfl, hr1, hb1⟩
    rw [HE.out]
    rw [HP.out, cur_len, HL.out] at hr1
    obtain ⟨A1, c1, rfl, hc1⟩ := ownsRow_slice hr1
    have hr1' : SAt callC w1 A1 n (curL xs a s n) := SAt.own hr1 (by decide)
    have HR := Lib.hid hr1'
    have H1 := Lib.hid (H.out.stays hb1)
    clear hr1 hr1'
    obtain ⟨b1, o1, hA, _⟩ := HR.out.at_ ha
    subst hA
    go_wp2
    go_loopw [10] (fun i wr => ∃ k q : Nat, k ≤ n ∧ a ≤ k ∧ i = .int .i64 k ∧ wr = w1.drewN q ∧ Hid (NoRec xs a s k)) (fun i _ => n - (intOf i).toNat)
    case atStart => exact ⟨a, 0, by omega, Nat.le_refl _, rfl, rfl, Lib.hid (fun i h1 h2 => absurd h2 (by omega))⟩
    case round =>
      obtain ⟨k, q, hk, hak, rfl, rfl, HA⟩ := hrel
      by_cases hlt : k < n
      · have k0 : (0 : Int) ≤ (k : Int) := by omega
        have kn : (k : Int) < (n : Int) := by omega
        obtain ⟨c0, cc1, c2, c3, c4⟩ := call_cells H1.out hlt
        obtain ⟨d0, d1, d2, d3, d4⟩ := call_cells HR.out hlt
        rw [show gc (curL xs a s n) k = lateC xs a s k by rw [cur_at (by rw [HL.out]; exact hlt), if_pos hlt], late_at hak] at d2
        clear c0 cc1 c3 c4 d0 d1 d3 d4
        by_cases h5 : depI xs a s k = (gc xs k).dep
        · have HF := Lib.hid (rec_hit HL.out HE.out hak hlt h5 HA.out)
          have h6 : (depI xs a s k == (gc xs k).dep) = true := by simpa using h5
          have HQ := Lib.hid h5
          clear h5
          go_wp2
          go_quiet (fail)
          go_wp2
          go_ret2
          exact ⟨ret_ib HF.out.1.symm HF.out.2.symm, bdrewN (bdrewN hb1 _) _⟩
        · have HF := Lib.hid (HA.out.step h5)
          have h6 : (depI xs a s k == (gc xs k).dep) = false := by simpa using h5
          clear h5
          go_wp2
          go_quiet (fail)
          go_wp2
          go_roundw
          case rel => exact ⟨k + 1, _, by omega, by omega, by go_num, rfl, HF⟩
          case measure => simp [intOf]; omega
      · obtain rfl : k = n := by omega
        have hd : ¬ ((k : Int) < (k : Int)) := by omega
        have HF := Lib.hid (rec_none HL.out HA.out)
        go_wp2
        go_ret2
        exact ⟨ret_ib HF.out.1.symm HF.out.2.symm, bdrewN hb1 _⟩
  · have HF := Lib.hid (rec_err he)
    have he' : (propE xs at_ s != 0) = true := by simpa using he
    go_enter Try.func19, Try.ntmps19
    go_wp2_with fail
    refine (rprop_any _ _ _ xs at_ s _ H.out hn hc).mono ?_
    rintro e w1 ⟨v1, rfl, hr1, hb1⟩
    clear hr1 he
    go_wp2
    go_ret2
    exact ⟨ret_ib HF.out.1.symm HF.out.2.symm, hb1⟩
end Go.Proofs.Ytackadjhgklieaa
