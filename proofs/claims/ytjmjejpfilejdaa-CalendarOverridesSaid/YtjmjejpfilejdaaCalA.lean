/-
  Active, Next, Previous, Days: both. Printed by gen/cala.py.
-/
import Derived.Test.YtjmjejpfilejdaaCalR
import Derived.Test.YtjmjejpfilejdaaCalP
namespace Go.Proofs.Ytjmjejpfilejdaa
open Go.RowKit

theorem int_info : (Try.prog.info? 3).map (fun i => (i.zero, i.size, i.bytes)) = some (some (.int .i64 0), 1, 8) := by kernel_rfl
theorem cell_new1 (w : World) (v : Value) (t : TypeId) : ∀ j u, [v][j]? = some u → (w.alloc (.cells #[v] t)).cell? ((⟨w.heap.size, 0, none⟩ : Addr).add j) = some u := by
  intro j u hu
  rw [Addr.add_lit, Nat.zero_add, World.cell?_alloc_at _ _ _ _ rfl, ← hu]
  simp

set_option maxHeartbeats 2000000 in
theorem rreason_any (A B : Option Addr) (n c m g : Nat) (l : List Cal) (x : List Exc) (i d : Int) (w : World) (hl : SAt calC w A n l) (hx : SAt excC w B m x) (_hn : n ≤ 1000) (hm : m ≤ 1000) :
    Calls Try.prog 19 #[.slice A n c, .slice B m g, .int .i64 i, .int .i64 d] w fun e w' => e = .returned (.int .i64 (reasonI l x i d)) ∧ w = w' := by
  have L := Lib.hid hl
  have X := Lib.hid hx
  clear hl hx
  by_cases i0 : i < 0
  · have H := Lib.hid (reason_low (l := l) (x := x) (d := d) i0)
    go_enter Try.func19, Try.ntmps19
    go_wp2
    go_ret
    exact ⟨ret_int H.out.symm, rfl⟩
  by_cases i1 : (n : Int) ≤ i
  · have H := Lib.hid (reason_high (x := x) (d := d) L.out.1 i1)
    go_enter Try.func19, Try.ntmps19
    go_wp2
    go_ret
    exact ⟨ret_int H.out.symm, rfl⟩
  obtain ⟨a, rfl⟩ : ∃ a : Nat, i = (a : Int) := ⟨i.toNat, by omega⟩
  have ha : a < n := by omega
  cases hd : dayB d
  · have H := Lib.hid (reason_day (l := l) (x := x) (i := (a : Int)) hd)
    go_enter Try.func19, Try.ntmps19
    go_wp2_with (go_at_call 33; refine (rday_any _ _).mono ?_; rintro e w' ⟨rfl, rfl⟩)
    go_ret
    exact ⟨ret_int H.out.symm, rfl⟩
  obtain ⟨d0, d1⟩ := day_inv hd
  have a0 : (0 : Int) ≤ (a : Int) := by omega
  have an : (a : Int) < (n : Int) := by omega
  have na : ¬ n ≤ a := by omega
  have na0 : ¬ (a : Int) < 0 := by omega
  clear i0 i1
  obtain ⟨b, o, hA, _⟩ := L.out.at_ ha
  subst hA
  go_enter Try.func19, Try.ntmps19
  go_wp2_with (go_at_call 33; refine (rday_any _ _).mono ?_; rintro e w' ⟨rfl, rfl⟩)
  go_loop [9] (fun s => ∃ k : Nat, k ≤ m ∧ s = .int .i64 k ∧ Hid (NoHit x a d k)) (fun s => m - (intOf s).toNat)
  case atStart => exact ⟨0, by omega, rfl, Lib.hid (NoHit.zero _ _ _)⟩
  case round =>
    obtain ⟨k, hk, rfl, HN⟩ := hrel
    by_cases hlt : k < m
    · have k0 : (0 : Int) ≤ (k : Int) := by omega
      have kn : (k : Int) < (m : Int) := by omega
      obtain ⟨b', o', hA, _⟩ := X.out.at_ hlt
      subst hA
      obtain ⟨e0, e1, e2⟩ := exc_cells X.out hlt
      by_cases hc : (gx x k).cal = (a : Int)
      · by_cases hy : (gx x k).day = d
        · have HH := Lib.hid (hit_yes hc hy)
          cases had : (gx x k).add
          · have HR := Lib.hid (reason_hit L.out.1 ha hd X.out.1 hlt HN.out HH.out had)
            go_wp2
            go_ret
            exact ⟨ret_int HR.out.symm, rfl⟩
          · have HR := Lib.hid (reason_hit L.out.1 ha hd X.out.1 hlt HN.out HH.out had)
            go_wp2
            go_ret
            exact ⟨ret_int HR.out.symm, rfl⟩
        · have HS := Lib.hid (HN.out.step (hit_day hy))
          go_wp2
          go_round
          case rel => exact ⟨k + 1, by omega, by go_num, HS⟩
          case measure => simp [intOf]; omega
      · have HS := Lib.hid (HN.out.step (hit_cal hc))
        go_wp2
        go_round
        case rel => exact ⟨k + 1, by omega, by go_num, HS⟩
        case measure => simp [intOf]; omega
    · obtain rfl : k = m := by omega
      have hkk : ¬ ((k : Int) < (k : Int)) := by omega
      obtain ⟨_, _, _, _, _, _, _, _, f8, f9⟩ := cal_cells L.out ha
      by_cases ho1 : d < (gcal l a).frm
      · have HR := Lib.hid (reason_out L.out.1 ha hd X.out.1 HN.out (Or.inl ho1))
        go_wp2
        go_ret
        exact ⟨ret_int HR.out.symm, rfl⟩
      · by_cases ho2 : (gcal l a).til < d
        · have HR := Lib.hid (reason_out L.out.1 ha hd X.out.1 HN.out (Or.inr ho2))
          go_wp2
          go_ret
          exact ⟨ret_int HR.out.symm, rfl⟩
        · obtain ⟨q, hq⟩ : ∃ q, q = wdN d := ⟨_, rfl⟩
          have hq7 := wd_lt d
          rw [← hq] at hq7
          have q0 : (0 : Int) ≤ (q : Int) := by omega
          have q7 : (q : Int) < 7 := by omega
          have hwk := fun w => rweek_any d w hd
          rw [← hq] at hwk
          have fq := cal_week L.out ha hq7
          cases hb : (gcal l a).wk q
          · have HR := Lib.hid (reason_week (b := false) L.out.1 ha hd X.out.1 HN.out ho1 ho2 (by rw [← hq]; exact hb))
            rw [hb] at fq
            clear hq
            go_wp2_with (go_at_call 35; refine (hwk _).mono ?_; rintro e w' ⟨rfl, rfl⟩)
            go_ret
            exact ⟨ret_int HR.out.symm, rfl⟩
          · have HR := Lib.hid (reason_week (b := true) L.out.1 ha hd X.out.1 HN.out ho1 ho2 (by rw [← hq]; exact hb))
            rw [hb] at fq
            clear hq
            go_wp2_with (go_at_call 35; refine (hwk _).mono ?_; rintro e w' ⟨rfl, rfl⟩)
            go_ret
            exact ⟨ret_int HR.out.symm, rfl⟩

set_option maxHeartbeats 2000000 in
theorem act_any (A B : Option Addr) (n c m g : Nat) (l : List Cal) (x : List Exc) (i d : Int) (w : World) (hl : SAt calC w A n l) (hx : SAt excC w B m x) (hn : n ≤ 1000) (hm : m ≤ 1000) :
    Calls Try.prog 20 #[.slice A n c, .slice B m g, .int .i64 i, .int .i64 d] w fun e w' => e = .returned (.bool (actB l x i d)) ∧ Below w.heap.size w w' := by
  have hc := reason_any A B n c m g l x i d w hl hx hn hm
  clear hl hx
  obtain ⟨s, hs⟩ : ∃ s, s = actB l x i d := ⟨_, rfl⟩
  have ha : s = (decide (reasonI l x i d = 1) || decide (reasonI l x i d = 2)) := hs
  rw [← hs]
  clear hs
  rcases reason_range l x i d with h | h | h | h | h | h <;> (
    rw [h] at hc ha
    clear h
    simp at ha
    subst ha
    go_enter Try.func20, Try.ntmps20
    go_wp2_with (go_at_call 18; refine hc.mono ?_; rintro e w' ⟨rfl, hb⟩)
    go_ret
    exact ⟨rfl, hb⟩)

set_option maxHeartbeats 2000000 in
theorem ract_any (A B : Option Addr) (n c m g : Nat) (l : List Cal) (x : List Exc) (i d : Int) (w : World) (hl : SAt calC w A n l) (hx : SAt excC w B m x) (hn : n ≤ 1000) (hm : m ≤ 1000) :
    Calls Try.prog 21 #[.slice A n c, .slice B m g, .int .i64 i, .int .i64 d] w fun e w' => e = .returned (.bool (actB l x i d)) ∧ w = w' := by
  have hc := rreason_any A B n c m g l x i d w hl hx hn hm
  clear hl hx
  obtain ⟨s, hs⟩ : ∃ s, s = actB l x i d := ⟨_, rfl⟩
  have ha : s = (decide (reasonI l x i d = 1) || decide (reasonI l x i d = 2)) := hs
  rw [← hs]
  clear hs
  rcases reason_range l x i d with h | h | h | h | h | h <;> (
    rw [h] at hc ha
    clear h
    simp at ha
    subst ha
    go_enter Try.func21, Try.ntmps21
    go_wp2_with (go_at_call 19; refine hc.mono ?_; rintro e w' ⟨rfl, rfl⟩)
    go_ret
    exact ⟨rfl, rfl⟩)

set_option maxHeartbeats 2000000 in
theorem next_any (A B : Option Addr) (n c m g : Nat) (l : List Cal) (x : List Exc) (i d : Int) (w : World) (hl : SAt calC w A n l) (hx : SAt excC w B m x) (hn : n ≤ 1000) (hm : m ≤ 1000) :
    Calls Try.prog 25 #[.slice A n c, .slice B m g, .int .i64 i, .int .i64 d] w fun e w' => e = .returned (.tuple #[.int .i64 (nextI l x i d), .bool (nextB l x i d)]) ∧ Below w.heap.size w w' := by
  have r := Nat.le_refl w.heap.size
  have L := Lib.hid hl
  have X := Lib.hid hx
  clear hl hx
  obtain ⟨t, ht⟩ : ∃ t, t = loI d := ⟨_, rfl⟩
  have htd : 0 ≤ t ∧ (0 ≤ d → t = d) ∧ (d < 0 → t = 0) := by rw [ht]; exact lo_parts d
  by_cases h36 : d < 0
  · obtain rfl : t = 0 := htd.2.2 h36
    have HT := Lib.hid ht
    clear ht htd
    go_enter Try.func25, Try.ntmps25
    go_wp2
    go_loopw [10] (fun s wr => ∃ v : Int, s = .int .i64 v ∧ 0 ≤ v ∧ Hid (NoActU l x i 0 v) ∧ Hid (Below w.heap.size w wr)) (fun s _ => (36525 - (intOf s)).toNat)
    case atStart => exact ⟨_, rfl, by omega, Lib.hid (NoActU.zero _ _ _ _), Lib.hid (Below.refl _ _)⟩
    case round =>
      obtain ⟨v, rfl, v0, HN, HB⟩ := hrel
      by_cases hv : v ≤ 36524
      · have LL := Lib.hid (L.out.stays HB.out)
        have XX := Lib.hid (X.out.stays HB.out)
        obtain ⟨s, hs⟩ : ∃ s, s = actB l x i v := ⟨_, rfl⟩
        have hc := act_any A B n c m g l x i v wr LL.out XX.out hn hm
        rw [← hs] at hc
        have HS := Lib.hid hs
        clear hs
        cases s
        · go_wp2_with (go_at_call 20; refine hc.mono ?_; rintro e w' ⟨rfl, hb⟩)
          have HB := Lib.hid (bthen HB.out hb r)
          clear hb
          go_wp2
          go_roundw
          case rel => exact ⟨v + 1, by go_num, by omega, Lib.hid (HN.out.step HS.out.symm), HB⟩
          case measure => simp [intOf]; omega
        · go_wp2_with (go_at_call 20; refine hc.mono ?_; rintro e w' ⟨rfl, hb⟩)
          have HB := Lib.hid (bthen HB.out hb r)
          clear hb
          go_wp2
          go_ret2
          have HF := next_at HT.out (by omega) HN.out HS.out.symm
          exact ⟨ret_ib HF.1.symm HF.2.symm, HB.out⟩
      · go_wp2
        go_ret2
        have HF := next_none HT.out (by omega) HN.out
        exact ⟨ret_ib HF.1.symm HF.2.symm, HB.out⟩
  · obtain rfl : t = d := htd.2.1 (by omega)
    have HT := Lib.hid ht
    clear ht htd
    go_enter Try.func25, Try.ntmps25
    go_wp2
    go_loopw [10] (fun s wr => ∃ v : Int, s = .int .i64 v ∧ 0 ≤ v ∧ Hid (NoActU l x i t v) ∧ Hid (Below w.heap.size w wr)) (fun s _ => (36525 - (intOf s)).toNat)
    case atStart => exact ⟨_, rfl, by omega, Lib.hid (NoActU.zero _ _ _ _), Lib.hid (Below.refl _ _)⟩
    case round =>
      obtain ⟨v, rfl, v0, HN, HB⟩ := hrel
      by_cases hv : v ≤ 36524
      · have LL := Lib.hid (L.out.stays HB.out)
        have XX := Lib.hid (X.out.stays HB.out)
        obtain ⟨s, hs⟩ : ∃ s, s = actB l x i v := ⟨_, rfl⟩
        have hc := act_any A B n c m g l x i v wr LL.out XX.out hn hm
        rw [← hs] at hc
        have HS := Lib.hid hs
        clear hs
        cases s
        · go_wp2_with (go_at_call 20; refine hc.mono ?_; rintro e w' ⟨rfl, hb⟩)
          have HB := Lib.hid (bthen HB.out hb r)
          clear hb
          go_wp2
          go_roundw
          case rel => exact ⟨v + 1, by go_num, by omega, Lib.hid (HN.out.step HS.out.symm), HB⟩
          case measure => simp [intOf]; omega
        · go_wp2_with (go_at_call 20; refine hc.mono ?_; rintro e w' ⟨rfl, hb⟩)
          have HB := Lib.hid (bthen HB.out hb r)
          clear hb
          go_wp2
          go_ret2
          have HF := next_at HT.out (by omega) HN.out HS.out.symm
          exact ⟨ret_ib HF.1.symm HF.2.symm, HB.out⟩
      · go_wp2
        go_ret2
        have HF := next_none HT.out (by omega) HN.out
        exact ⟨ret_ib HF.1.symm HF.2.symm, HB.out⟩

set_option maxHeartbeats 2000000 in
theorem rnext_any (A B : Option Addr) (n c m g : Nat) (l : List Cal) (x : List Exc) (i d : Int) (w : World) (hl : SAt calC w A n l) (hx : SAt excC w B m x) (hn : n ≤ 1000) (hm : m ≤ 1000) :
    Calls Try.prog 26 #[.slice A n c, .slice B m g, .int .i64 i, .int .i64 d] w fun e w' => e = .returned (.tuple #[.int .i64 (nextI l x i d), .bool (nextB l x i d)]) ∧ w = w' := by
  have r := Nat.le_refl w.heap.size
  have L := Lib.hid hl
  have X := Lib.hid hx
  clear hl hx
  obtain ⟨t, ht⟩ : ∃ t, t = loI d := ⟨_, rfl⟩
  have htd : 0 ≤ t ∧ (0 ≤ d → t = d) ∧ (d < 0 → t = 0) := by rw [ht]; exact lo_parts d
  by_cases h36 : d < 0
  · obtain rfl : t = 0 := htd.2.2 h36
    have HT := Lib.hid ht
    clear ht htd
    go_enter Try.func26, Try.ntmps26
    go_wp2
    go_loop [3] (fun s => ∃ v : Int, s = .int .i64 v ∧ 0 ≤ v ∧ Hid (NoActU l x i 0 v)) (fun s => (36525 - (intOf s)).toNat)
    case atStart => exact ⟨_, rfl, by omega, Lib.hid (NoActU.zero _ _ _ _)⟩
    case round =>
      obtain ⟨v, rfl, v0, HN⟩ := hrel
      by_cases hv : v ≤ 36524
      · obtain ⟨s, hs⟩ : ∃ s, s = actB l x i v := ⟨_, rfl⟩
        have hc := ract_any A B n c m g l x i v w L.out X.out hn hm
        rw [← hs] at hc
        have HS := Lib.hid hs
        clear hs
        cases s
        · go_wp2_with (go_at_call 21; refine hc.mono ?_; rintro e w' ⟨rfl, rfl⟩)
          go_round
          case rel => exact ⟨v + 1, by go_num, by omega, Lib.hid (HN.out.step HS.out.symm)⟩
          case measure => simp [intOf]; omega
        · go_wp2_with (go_at_call 21; refine hc.mono ?_; rintro e w' ⟨rfl, rfl⟩)
          go_ret2
          have HF := next_at HT.out (by omega) HN.out HS.out.symm
          exact ⟨ret_ib HF.1.symm HF.2.symm, rfl⟩
      · go_wp2
        go_ret2
        have HF := next_none HT.out (by omega) HN.out
        exact ⟨ret_ib HF.1.symm HF.2.symm, rfl⟩
  · obtain rfl : t = d := htd.2.1 (by omega)
    have HT := Lib.hid ht
    clear ht htd
    go_enter Try.func26, Try.ntmps26
    go_wp2
    go_loop [3] (fun s => ∃ v : Int, s = .int .i64 v ∧ 0 ≤ v ∧ Hid (NoActU l x i t v)) (fun s => (36525 - (intOf s)).toNat)
    case atStart => exact ⟨_, rfl, by omega, Lib.hid (NoActU.zero _ _ _ _)⟩
    case round =>
      obtain ⟨v, rfl, v0, HN⟩ := hrel
      by_cases hv : v ≤ 36524
      · obtain ⟨s, hs⟩ : ∃ s, s = actB l x i v := ⟨_, rfl⟩
        have hc := ract_any A B n c m g l x i v w L.out X.out hn hm
        rw [← hs] at hc
        have HS := Lib.hid hs
        clear hs
        cases s
        · go_wp2_with (go_at_call 21; refine hc.mono ?_; rintro e w' ⟨rfl, rfl⟩)
          go_round
          case rel => exact ⟨v + 1, by go_num, by omega, Lib.hid (HN.out.step HS.out.symm)⟩
          case measure => simp [intOf]; omega
        · go_wp2_with (go_at_call 21; refine hc.mono ?_; rintro e w' ⟨rfl, rfl⟩)
          go_ret2
          have HF := next_at HT.out (by omega) HN.out HS.out.symm
          exact ⟨ret_ib HF.1.symm HF.2.symm, rfl⟩
      · go_wp2
        go_ret2
        have HF := next_none HT.out (by omega) HN.out
        exact ⟨ret_ib HF.1.symm HF.2.symm, rfl⟩

set_option maxHeartbeats 2000000 in
theorem prev_any (A B : Option Addr) (n c m g : Nat) (l : List Cal) (x : List Exc) (i d : Int) (w : World) (hl : SAt calC w A n l) (hx : SAt excC w B m x) (hn : n ≤ 1000) (hm : m ≤ 1000) :
    Calls Try.prog 27 #[.slice A n c, .slice B m g, .int .i64 i, .int .i64 d] w fun e w' => e = .returned (.tuple #[.int .i64 (prevI l x i d), .bool (prevB l x i d)]) ∧ Below w.heap.size w w' := by
  have r := Nat.le_refl w.heap.size
  have L := Lib.hid hl
  have X := Lib.hid hx
  clear hl hx
  obtain ⟨t, ht⟩ : ∃ t, t = hiI d := ⟨_, rfl⟩
  have htd : t ≤ 36524 ∧ (d ≤ 36524 → t = d) ∧ (36524 < d → t = 36524) := by rw [ht]; exact hi_parts d
  by_cases h36 : 36524 < d
  · obtain rfl : t = 36524 := htd.2.2 h36
    have HT := Lib.hid ht
    clear ht htd
    go_enter Try.func27, Try.ntmps27
    go_wp2
    go_loopw [10] (fun s wr => ∃ v : Int, s = .int .i64 v ∧ v ≤ 36524 ∧ Hid (NoActD l x i 36524 v) ∧ Hid (Below w.heap.size w wr)) (fun s _ => ((intOf s) + 1).toNat)
    case atStart => exact ⟨_, rfl, by omega, Lib.hid (NoActD.zero _ _ _ _), Lib.hid (Below.refl _ _)⟩
    case round =>
      obtain ⟨v, rfl, v0, HN, HB⟩ := hrel
      by_cases hv : 0 ≤ v
      · have LL := Lib.hid (L.out.stays HB.out)
        have XX := Lib.hid (X.out.stays HB.out)
        obtain ⟨s, hs⟩ : ∃ s, s = actB l x i v := ⟨_, rfl⟩
        have hc := act_any A B n c m g l x i v wr LL.out XX.out hn hm
        rw [← hs] at hc
        have HS := Lib.hid hs
        clear hs
        cases s
        · go_wp2_with (go_at_call 20; refine hc.mono ?_; rintro e w' ⟨rfl, hb⟩)
          have HB := Lib.hid (bthen HB.out hb r)
          clear hb
          go_wp2
          go_roundw
          case rel => exact ⟨v - 1, by go_num, by omega, Lib.hid (HN.out.step HS.out.symm), HB⟩
          case measure => simp [intOf]; omega
        · go_wp2_with (go_at_call 20; refine hc.mono ?_; rintro e w' ⟨rfl, hb⟩)
          have HB := Lib.hid (bthen HB.out hb r)
          clear hb
          go_wp2
          go_ret2
          have HF := prev_at HT.out (by omega) HN.out HS.out.symm
          exact ⟨ret_ib HF.1.symm HF.2.symm, HB.out⟩
      · go_wp2
        go_ret2
        have HF := prev_none HT.out (by omega) HN.out
        exact ⟨ret_ib HF.1.symm HF.2.symm, HB.out⟩
  · obtain rfl : t = d := htd.2.1 (by omega)
    have HT := Lib.hid ht
    clear ht htd
    go_enter Try.func27, Try.ntmps27
    go_wp2
    go_loopw [10] (fun s wr => ∃ v : Int, s = .int .i64 v ∧ v ≤ 36524 ∧ Hid (NoActD l x i t v) ∧ Hid (Below w.heap.size w wr)) (fun s _ => ((intOf s) + 1).toNat)
    case atStart => exact ⟨_, rfl, by omega, Lib.hid (NoActD.zero _ _ _ _), Lib.hid (Below.refl _ _)⟩
    case round =>
      obtain ⟨v, rfl, v0, HN, HB⟩ := hrel
      by_cases hv : 0 ≤ v
      · have LL := Lib.hid (L.out.stays HB.out)
        have XX := Lib.hid (X.out.stays HB.out)
        obtain ⟨s, hs⟩ : ∃ s, s = actB l x i v := ⟨_, rfl⟩
        have hc := act_any A B n c m g l x i v wr LL.out XX.out hn hm
        rw [← hs] at hc
        have HS := Lib.hid hs
        clear hs
        cases s
        · go_wp2_with (go_at_call 20; refine hc.mono ?_; rintro e w' ⟨rfl, hb⟩)
          have HB := Lib.hid (bthen HB.out hb r)
          clear hb
          go_wp2
          go_roundw
          case rel => exact ⟨v - 1, by go_num, by omega, Lib.hid (HN.out.step HS.out.symm), HB⟩
          case measure => simp [intOf]; omega
        · go_wp2_with (go_at_call 20; refine hc.mono ?_; rintro e w' ⟨rfl, hb⟩)
          have HB := Lib.hid (bthen HB.out hb r)
          clear hb
          go_wp2
          go_ret2
          have HF := prev_at HT.out (by omega) HN.out HS.out.symm
          exact ⟨ret_ib HF.1.symm HF.2.symm, HB.out⟩
      · go_wp2
        go_ret2
        have HF := prev_none HT.out (by omega) HN.out
        exact ⟨ret_ib HF.1.symm HF.2.symm, HB.out⟩

set_option maxHeartbeats 2000000 in
theorem rprev_any (A B : Option Addr) (n c m g : Nat) (l : List Cal) (x : List Exc) (i d : Int) (w : World) (hl : SAt calC w A n l) (hx : SAt excC w B m x) (hn : n ≤ 1000) (hm : m ≤ 1000) :
    Calls Try.prog 28 #[.slice A n c, .slice B m g, .int .i64 i, .int .i64 d] w fun e w' => e = .returned (.tuple #[.int .i64 (prevI l x i d), .bool (prevB l x i d)]) ∧ w = w' := by
  have r := Nat.le_refl w.heap.size
  have L := Lib.hid hl
  have X := Lib.hid hx
  clear hl hx
  obtain ⟨t, ht⟩ : ∃ t, t = hiI d := ⟨_, rfl⟩
  have htd : t ≤ 36524 ∧ (d ≤ 36524 → t = d) ∧ (36524 < d → t = 36524) := by rw [ht]; exact hi_parts d
  by_cases h36 : 36524 < d
  · obtain rfl : t = 36524 := htd.2.2 h36
    have HT := Lib.hid ht
    clear ht htd
    go_enter Try.func28, Try.ntmps28
    go_wp2
    go_loop [3] (fun s => ∃ v : Int, s = .int .i64 v ∧ v ≤ 36524 ∧ Hid (NoActD l x i 36524 v)) (fun s => ((intOf s) + 1).toNat)
    case atStart => exact ⟨_, rfl, by omega, Lib.hid (NoActD.zero _ _ _ _)⟩
    case round =>
      obtain ⟨v, rfl, v0, HN⟩ := hrel
      by_cases hv : 0 ≤ v
      · obtain ⟨s, hs⟩ : ∃ s, s = actB l x i v := ⟨_, rfl⟩
        have hc := ract_any A B n c m g l x i v w L.out X.out hn hm
        rw [← hs] at hc
        have HS := Lib.hid hs
        clear hs
        cases s
        · go_wp2_with (go_at_call 21; refine hc.mono ?_; rintro e w' ⟨rfl, rfl⟩)
          go_round
          case rel => exact ⟨v - 1, by go_num, by omega, Lib.hid (HN.out.step HS.out.symm)⟩
          case measure => simp [intOf]; omega
        · go_wp2_with (go_at_call 21; refine hc.mono ?_; rintro e w' ⟨rfl, rfl⟩)
          go_ret2
          have HF := prev_at HT.out (by omega) HN.out HS.out.symm
          exact ⟨ret_ib HF.1.symm HF.2.symm, rfl⟩
      · go_wp2
        go_ret2
        have HF := prev_none HT.out (by omega) HN.out
        exact ⟨ret_ib HF.1.symm HF.2.symm, rfl⟩
  · obtain rfl : t = d := htd.2.1 (by omega)
    have HT := Lib.hid ht
    clear ht htd
    go_enter Try.func28, Try.ntmps28
    go_wp2
    go_loop [3] (fun s => ∃ v : Int, s = .int .i64 v ∧ v ≤ 36524 ∧ Hid (NoActD l x i t v)) (fun s => ((intOf s) + 1).toNat)
    case atStart => exact ⟨_, rfl, by omega, Lib.hid (NoActD.zero _ _ _ _)⟩
    case round =>
      obtain ⟨v, rfl, v0, HN⟩ := hrel
      by_cases hv : 0 ≤ v
      · obtain ⟨s, hs⟩ : ∃ s, s = actB l x i v := ⟨_, rfl⟩
        have hc := ract_any A B n c m g l x i v w L.out X.out hn hm
        rw [← hs] at hc
        have HS := Lib.hid hs
        clear hs
        cases s
        · go_wp2_with (go_at_call 21; refine hc.mono ?_; rintro e w' ⟨rfl, rfl⟩)
          go_round
          case rel => exact ⟨v - 1, by go_num, by omega, Lib.hid (HN.out.step HS.out.symm)⟩
          case measure => simp [intOf]; omega
        · go_wp2_with (go_at_call 21; refine hc.mono ?_; rintro e w' ⟨rfl, rfl⟩)
          go_ret2
          have HF := prev_at HT.out (by omega) HN.out HS.out.symm
          exact ⟨ret_ib HF.1.symm HF.2.symm, rfl⟩
      · go_wp2
        go_ret2
        have HF := prev_none HT.out (by omega) HN.out
        exact ⟨ret_ib HF.1.symm HF.2.symm, rfl⟩

set_option maxHeartbeats 4000000 in
theorem days_any (A B : Option Addr) (n c m g : Nat) (l : List Cal) (x : List Exc) (i p q : Int) (w : World) (hl : SAt calC w A n l) (hx : SAt excC w B m x) (hn : n ≤ 1000) (hm : m ≤ 1000) :
    Calls Try.prog 23 #[.slice A n c, .slice B m g, .int .i64 i, .int .i64 p, .int .i64 q] w fun e w' => MadeInts w (daysL l x i p q) e w' := by
  obtain ⟨i0, hi, hz0, hz1, hz2⟩ := info_parts int_info
  have r := Nat.le_refl w.heap.size
  have L := Lib.hid hl
  have X := Lib.hid hx
  clear hl hx
  obtain ⟨t, ht⟩ : ∃ t, t = loI p := ⟨_, rfl⟩
  have htd : 0 ≤ t ∧ (0 ≤ p → t = p) ∧ (p < 0 → t = 0) := by rw [ht]; exact lo_parts p
  obtain ⟨u, hu⟩ : ∃ u, u = hiI q := ⟨_, rfl⟩
  have hud : u ≤ 36524 ∧ (q ≤ 36524 → u = q) ∧ (36524 < q → u = 36524) := by rw [hu]; exact hi_parts q
  by_cases hp0 : p < 0
  · have T0 := Lib.hid (htd.2.2 hp0)
    have t0 := htd.1
    by_cases hq0 : 36524 < q
    · obtain rfl : u = 36524 := hud.2.2 hq0
      have HT := Lib.hid ht
      have HU := Lib.hid hu
      clear ht htd hu hud
      go_enter Try.func23, Try.ntmps23
      go_wp2
      go_loopw [11, 12] (fun y s wr => ∃ k : Nat, s = .int .i64 (t + (k : Int)) ∧ (k : Int) ≤ 36525 ∧ (t + (k : Int) ≤ 36524 + 1 ∨ k = 0) ∧ wr.ownsRow w.heap.size 3 1 y (actTo l x i t k).length ((actTo l x i t k).map (Value.int .i64)) ∧ Hid (Below w.heap.size w wr)) (fun _ s _ => (36525 - (intOf s)).toNat)
      case atStart => exact ⟨0, by rw [T0.out]; rfl, by omega, Or.inr rfl, World.ownsRow_nil _ _ _ _, Lib.hid (Below.refl _ _)⟩
      case round =>
        obtain ⟨k, rfl, hk, hku, hown, HB⟩ := hrel
        by_cases hv : t + (k : Int) ≤ 36524
        · have LL := Lib.hid (L.out.stays HB.out)
          have XX := Lib.hid (X.out.stays HB.out)
          have hil := act_len l x i t k
          obtain ⟨s, hs⟩ : ∃ s, s = actB l x i (t + (k : Int)) := ⟨_, rfl⟩
          have hc := act_any A B n c m g l x i (t + (k : Int)) wr LL.out XX.out hn hm
          rw [← hs] at hc
          have HE := Lib.hid (act_step l x i t k)
          have HS := Lib.hid hs
          have HO := Lib.hid hown
          clear hs hown
          cases s
          · go_wp2_with fail
            refine hc.mono ?_
            rintro e w' ⟨rfl, hb⟩
            have HB := Lib.hid (bthen HB.out hb r)
            have hown := ownsRow_stays HO.out hb
            clear hb HO
            go_wp2
            go_roundw
            case rel => exact ⟨k + 1, by go_num, by omega, by omega, by rw [HE.out, ← HS.out]; exact hown, HB⟩
            case measure => simp [intOf]; omega
          · go_wp2_with fail
            refine hc.mono ?_
            rintro e w' ⟨rfl, hb⟩
            have HB := Lib.hid (bthen HB.out hb r)
            have hown := ownsRow_stays HO.out hb
            clear hb HO
            obtain ⟨z, hz⟩ : ∃ z, z = (actTo l x i t k).length := ⟨_, rfl⟩
            rw [← hz] at hown hil
            have HZ := Lib.hid hz
            clear hz
            go_wp2_with (at_builtin; refine wpList_append_own _ rfl _ _ 43 rfl w.heap.size 3 i0 (.int .i64 0) 1 8 Try.underlying43 hi hz0 hz1 hz2 rfl (by decide) _ _ _ rfl (hown.alloc _) ⟨w'.heap.size, 0, none⟩ 1 1 [.int .i64 (t + (k : Int))] rfl rfl (cell_new1 _ _ _) (by intro u hu; simp at hu; subst hu; rfl) (by unfold maxLen; omega) (by omega) (balloc HB.out _ r).size ?_; intro v' w1 hown' hgrow _)
            have R : Below w.heap.size w w1 := below_app HB.out HB.out.size (Nat.le_refl _) hown hgrow
            clear hown hgrow
            go_wp2
            go_roundw
            case rel => exact ⟨k + 1, by go_num, by omega, by omega, by rw [HE.out, ← HS.out, if_pos rfl, List.length_append, ← HZ.out, List.map_append]; exact hown', Lib.hid R⟩
            case measure => simp [intOf]; omega
        · go_wp2
          go_ret
          rw [days_eq HT.out HU.out hku (by omega)]
          exact MadeInts.mk hown HB.out
    · obtain rfl : u = q := hud.2.1 (by omega)
      have HT := Lib.hid ht
      have HU := Lib.hid hu
      clear ht htd hu hud
      go_enter Try.func23, Try.ntmps23
      go_wp2
      go_loopw [11, 12] (fun y s wr => ∃ k : Nat, s = .int .i64 (t + (k : Int)) ∧ (k : Int) ≤ 36525 ∧ (t + (k : Int) ≤ u + 1 ∨ k = 0) ∧ wr.ownsRow w.heap.size 3 1 y (actTo l x i t k).length ((actTo l x i t k).map (Value.int .i64)) ∧ Hid (Below w.heap.size w wr)) (fun _ s _ => (36525 - (intOf s)).toNat)
      case atStart => exact ⟨0, by rw [T0.out]; rfl, by omega, Or.inr rfl, World.ownsRow_nil _ _ _ _, Lib.hid (Below.refl _ _)⟩
      case round =>
        obtain ⟨k, rfl, hk, hku, hown, HB⟩ := hrel
        by_cases hv : t + (k : Int) ≤ u
        · have LL := Lib.hid (L.out.stays HB.out)
          have XX := Lib.hid (X.out.stays HB.out)
          have hil := act_len l x i t k
          obtain ⟨s, hs⟩ : ∃ s, s = actB l x i (t + (k : Int)) := ⟨_, rfl⟩
          have hc := act_any A B n c m g l x i (t + (k : Int)) wr LL.out XX.out hn hm
          rw [← hs] at hc
          have HE := Lib.hid (act_step l x i t k)
          have HS := Lib.hid hs
          have HO := Lib.hid hown
          clear hs hown
          cases s
          · go_wp2_with fail
            refine hc.mono ?_
            rintro e w' ⟨rfl, hb⟩
            have HB := Lib.hid (bthen HB.out hb r)
            have hown := ownsRow_stays HO.out hb
            clear hb HO
            go_wp2
            go_roundw
            case rel => exact ⟨k + 1, by go_num, by omega, by omega, by rw [HE.out, ← HS.out]; exact hown, HB⟩
            case measure => simp [intOf]; omega
          · go_wp2_with fail
            refine hc.mono ?_
            rintro e w' ⟨rfl, hb⟩
            have HB := Lib.hid (bthen HB.out hb r)
            have hown := ownsRow_stays HO.out hb
            clear hb HO
            obtain ⟨z, hz⟩ : ∃ z, z = (actTo l x i t k).length := ⟨_, rfl⟩
            rw [← hz] at hown hil
            have HZ := Lib.hid hz
            clear hz
            go_wp2_with (at_builtin; refine wpList_append_own _ rfl _ _ 43 rfl w.heap.size 3 i0 (.int .i64 0) 1 8 Try.underlying43 hi hz0 hz1 hz2 rfl (by decide) _ _ _ rfl (hown.alloc _) ⟨w'.heap.size, 0, none⟩ 1 1 [.int .i64 (t + (k : Int))] rfl rfl (cell_new1 _ _ _) (by intro u hu; simp at hu; subst hu; rfl) (by unfold maxLen; omega) (by omega) (balloc HB.out _ r).size ?_; intro v' w1 hown' hgrow _)
            have R : Below w.heap.size w w1 := below_app HB.out HB.out.size (Nat.le_refl _) hown hgrow
            clear hown hgrow
            go_wp2
            go_roundw
            case rel => exact ⟨k + 1, by go_num, by omega, by omega, by rw [HE.out, ← HS.out, if_pos rfl, List.length_append, ← HZ.out, List.map_append]; exact hown', Lib.hid R⟩
            case measure => simp [intOf]; omega
        · go_wp2
          go_ret
          rw [days_eq HT.out HU.out hku (by omega)]
          exact MadeInts.mk hown HB.out
  · obtain rfl : t = p := htd.2.1 (by omega)
    by_cases hq0 : 36524 < q
    · obtain rfl : u = 36524 := hud.2.2 hq0
      have HT := Lib.hid ht
      have HU := Lib.hid hu
      clear ht htd hu hud
      go_enter Try.func23, Try.ntmps23
      go_wp2
      go_loopw [11, 12] (fun y s wr => ∃ k : Nat, s = .int .i64 (t + (k : Int)) ∧ (k : Int) ≤ 36525 ∧ (t + (k : Int) ≤ 36524 + 1 ∨ k = 0) ∧ wr.ownsRow w.heap.size 3 1 y (actTo l x i t k).length ((actTo l x i t k).map (Value.int .i64)) ∧ Hid (Below w.heap.size w wr)) (fun _ s _ => (36525 - (intOf s)).toNat)
      case atStart => exact ⟨0, by simp, by omega, Or.inr rfl, World.ownsRow_nil _ _ _ _, Lib.hid (Below.refl _ _)⟩
      case round =>
        obtain ⟨k, rfl, hk, hku, hown, HB⟩ := hrel
        by_cases hv : t + (k : Int) ≤ 36524
        · have LL := Lib.hid (L.out.stays HB.out)
          have XX := Lib.hid (X.out.stays HB.out)
          have hil := act_len l x i t k
          obtain ⟨s, hs⟩ : ∃ s, s = actB l x i (t + (k : Int)) := ⟨_, rfl⟩
          have hc := act_any A B n c m g l x i (t + (k : Int)) wr LL.out XX.out hn hm
          rw [← hs] at hc
          have HE := Lib.hid (act_step l x i t k)
          have HS := Lib.hid hs
          have HO := Lib.hid hown
          clear hs hown
          cases s
          · go_wp2_with fail
            refine hc.mono ?_
            rintro e w' ⟨rfl, hb⟩
            have HB := Lib.hid (bthen HB.out hb r)
            have hown := ownsRow_stays HO.out hb
            clear hb HO
            go_wp2
            go_roundw
            case rel => exact ⟨k + 1, by go_num, by omega, by omega, by rw [HE.out, ← HS.out]; exact hown, HB⟩
            case measure => simp [intOf]; omega
          · go_wp2_with fail
            refine hc.mono ?_
            rintro e w' ⟨rfl, hb⟩
            have HB := Lib.hid (bthen HB.out hb r)
            have hown := ownsRow_stays HO.out hb
            clear hb HO
            obtain ⟨z, hz⟩ : ∃ z, z = (actTo l x i t k).length := ⟨_, rfl⟩
            rw [← hz] at hown hil
            have HZ := Lib.hid hz
            clear hz
            go_wp2_with (at_builtin; refine wpList_append_own _ rfl _ _ 43 rfl w.heap.size 3 i0 (.int .i64 0) 1 8 Try.underlying43 hi hz0 hz1 hz2 rfl (by decide) _ _ _ rfl (hown.alloc _) ⟨w'.heap.size, 0, none⟩ 1 1 [.int .i64 (t + (k : Int))] rfl rfl (cell_new1 _ _ _) (by intro u hu; simp at hu; subst hu; rfl) (by unfold maxLen; omega) (by omega) (balloc HB.out _ r).size ?_; intro v' w1 hown' hgrow _)
            have R : Below w.heap.size w w1 := below_app HB.out HB.out.size (Nat.le_refl _) hown hgrow
            clear hown hgrow
            go_wp2
            go_roundw
            case rel => exact ⟨k + 1, by go_num, by omega, by omega, by rw [HE.out, ← HS.out, if_pos rfl, List.length_append, ← HZ.out, List.map_append]; exact hown', Lib.hid R⟩
            case measure => simp [intOf]; omega
        · go_wp2
          go_ret
          rw [days_eq HT.out HU.out hku (by omega)]
          exact MadeInts.mk hown HB.out
    · obtain rfl : u = q := hud.2.1 (by omega)
      have HT := Lib.hid ht
      have HU := Lib.hid hu
      clear ht htd hu hud
      go_enter Try.func23, Try.ntmps23
      go_wp2
      go_loopw [11, 12] (fun y s wr => ∃ k : Nat, s = .int .i64 (t + (k : Int)) ∧ (k : Int) ≤ 36525 ∧ (t + (k : Int) ≤ u + 1 ∨ k = 0) ∧ wr.ownsRow w.heap.size 3 1 y (actTo l x i t k).length ((actTo l x i t k).map (Value.int .i64)) ∧ Hid (Below w.heap.size w wr)) (fun _ s _ => (36525 - (intOf s)).toNat)
      case atStart => exact ⟨0, by simp, by omega, Or.inr rfl, World.ownsRow_nil _ _ _ _, Lib.hid (Below.refl _ _)⟩
      case round =>
        obtain ⟨k, rfl, hk, hku, hown, HB⟩ := hrel
        by_cases hv : t + (k : Int) ≤ u
        · have LL := Lib.hid (L.out.stays HB.out)
          have XX := Lib.hid (X.out.stays HB.out)
          have hil := act_len l x i t k
          obtain ⟨s, hs⟩ : ∃ s, s = actB l x i (t + (k : Int)) := ⟨_, rfl⟩
          have hc := act_any A B n c m g l x i (t + (k : Int)) wr LL.out XX.out hn hm
          rw [← hs] at hc
          have HE := Lib.hid (act_step l x i t k)
          have HS := Lib.hid hs
          have HO := Lib.hid hown
          clear hs hown
          cases s
          · go_wp2_with fail
            refine hc.mono ?_
            rintro e w' ⟨rfl, hb⟩
            have HB := Lib.hid (bthen HB.out hb r)
            have hown := ownsRow_stays HO.out hb
            clear hb HO
            go_wp2
            go_roundw
            case rel => exact ⟨k + 1, by go_num, by omega, by omega, by rw [HE.out, ← HS.out]; exact hown, HB⟩
            case measure => simp [intOf]; omega
          · go_wp2_with fail
            refine hc.mono ?_
            rintro e w' ⟨rfl, hb⟩
            have HB := Lib.hid (bthen HB.out hb r)
            have hown := ownsRow_stays HO.out hb
            clear hb HO
            obtain ⟨z, hz⟩ : ∃ z, z = (actTo l x i t k).length := ⟨_, rfl⟩
            rw [← hz] at hown hil
            have HZ := Lib.hid hz
            clear hz
            go_wp2_with (at_builtin; refine wpList_append_own _ rfl _ _ 43 rfl w.heap.size 3 i0 (.int .i64 0) 1 8 Try.underlying43 hi hz0 hz1 hz2 rfl (by decide) _ _ _ rfl (hown.alloc _) ⟨w'.heap.size, 0, none⟩ 1 1 [.int .i64 (t + (k : Int))] rfl rfl (cell_new1 _ _ _) (by intro u hu; simp at hu; subst hu; rfl) (by unfold maxLen; omega) (by omega) (balloc HB.out _ r).size ?_; intro v' w1 hown' hgrow _)
            have R : Below w.heap.size w w1 := below_app HB.out HB.out.size (Nat.le_refl _) hown hgrow
            clear hown hgrow
            go_wp2
            go_roundw
            case rel => exact ⟨k + 1, by go_num, by omega, by omega, by rw [HE.out, ← HS.out, if_pos rfl, List.length_append, ← HZ.out, List.map_append]; exact hown', Lib.hid R⟩
            case measure => simp [intOf]; omega
        · go_wp2
          go_ret
          rw [days_eq HT.out HU.out hku (by omega)]
          exact MadeInts.mk hown HB.out

set_option maxHeartbeats 4000000 in
theorem rdays_any (A B : Option Addr) (n c m g : Nat) (l : List Cal) (x : List Exc) (i p q : Int) (w : World) (hl : SAt calC w A n l) (hx : SAt excC w B m x) (hn : n ≤ 1000) (hm : m ≤ 1000) :
    Calls Try.prog 24 #[.slice A n c, .slice B m g, .int .i64 i, .int .i64 p, .int .i64 q] w fun e w' => MadeInts w (daysL l x i p q) e w' := by
  obtain ⟨i0, hi, hz0, hz1, hz2⟩ := info_parts int_info
  have r := Nat.le_refl w.heap.size
  have L := Lib.hid hl
  have X := Lib.hid hx
  clear hl hx
  obtain ⟨t, ht⟩ : ∃ t, t = loI p := ⟨_, rfl⟩
  have htd : 0 ≤ t ∧ (0 ≤ p → t = p) ∧ (p < 0 → t = 0) := by rw [ht]; exact lo_parts p
  obtain ⟨u, hu⟩ : ∃ u, u = hiI q := ⟨_, rfl⟩
  have hud : u ≤ 36524 ∧ (q ≤ 36524 → u = q) ∧ (36524 < q → u = 36524) := by rw [hu]; exact hi_parts q
  by_cases hp0 : p < 0
  · have T0 := Lib.hid (htd.2.2 hp0)
    have t0 := htd.1
    by_cases hq0 : 36524 < q
    · obtain rfl : u = 36524 := hud.2.2 hq0
      have HT := Lib.hid ht
      have HU := Lib.hid hu
      clear ht htd hu hud
      go_enter Try.func24, Try.ntmps24
      go_wp2
      go_loopw [11, 12] (fun y s wr => ∃ k : Nat, s = .int .i64 (t + (k : Int)) ∧ (k : Int) ≤ 36525 ∧ (t + (k : Int) ≤ 36524 + 1 ∨ k = 0) ∧ wr.ownsRow w.heap.size 3 1 y (actTo l x i t k).length ((actTo l x i t k).map (Value.int .i64)) ∧ Hid (Below w.heap.size w wr)) (fun _ s _ => (36525 - (intOf s)).toNat)
      case atStart => exact ⟨0, by rw [T0.out]; rfl, by omega, Or.inr rfl, World.ownsRow_nil _ _ _ _, Lib.hid (Below.refl _ _)⟩
      case round =>
        obtain ⟨k, rfl, hk, hku, hown, HB⟩ := hrel
        by_cases hv : t + (k : Int) ≤ 36524
        · have LL := Lib.hid (L.out.stays HB.out)
          have XX := Lib.hid (X.out.stays HB.out)
          have hil := act_len l x i t k
          obtain ⟨s, hs⟩ : ∃ s, s = actB l x i (t + (k : Int)) := ⟨_, rfl⟩
          have hc := ract_any A B n c m g l x i (t + (k : Int)) wr LL.out XX.out hn hm
          rw [← hs] at hc
          have HE := Lib.hid (act_step l x i t k)
          have HS := Lib.hid hs
          have HO := Lib.hid hown
          clear hs hown
          cases s
          · go_wp2_with fail
            refine hc.mono ?_
            rintro e w' ⟨rfl, rfl⟩
            have hown := HO.out
            clear HO
            go_wp2
            go_roundw
            case rel => exact ⟨k + 1, by go_num, by omega, by omega, by rw [HE.out, ← HS.out]; exact hown, HB⟩
            case measure => simp [intOf]; omega
          · go_wp2_with fail
            refine hc.mono ?_
            rintro e w' ⟨rfl, rfl⟩
            have hown := HO.out
            clear HO
            obtain ⟨z, hz⟩ : ∃ z, z = (actTo l x i t k).length := ⟨_, rfl⟩
            rw [← hz] at hown hil
            have HZ := Lib.hid hz
            clear hz
            go_wp2_with (at_builtin; refine wpList_append_own _ rfl _ _ 43 rfl w.heap.size 3 i0 (.int .i64 0) 1 8 Try.underlying43 hi hz0 hz1 hz2 rfl (by decide) _ _ _ rfl (hown.alloc _) ⟨wr.heap.size, 0, none⟩ 1 1 [.int .i64 (t + (k : Int))] rfl rfl (cell_new1 _ _ _) (by intro u hu; simp at hu; subst hu; rfl) (by unfold maxLen; omega) (by omega) (balloc HB.out _ r).size ?_; intro v' w1 hown' hgrow _)
            have R : Below w.heap.size w w1 := below_app HB.out HB.out.size (Nat.le_refl _) hown hgrow
            clear hown hgrow
            go_wp2
            go_roundw
            case rel => exact ⟨k + 1, by go_num, by omega, by omega, by rw [HE.out, ← HS.out, if_pos rfl, List.length_append, ← HZ.out, List.map_append]; exact hown', Lib.hid R⟩
            case measure => simp [intOf]; omega
        · go_wp2
          go_ret
          rw [days_eq HT.out HU.out hku (by omega)]
          exact MadeInts.mk hown HB.out
    · obtain rfl : u = q := hud.2.1 (by omega)
      have HT := Lib.hid ht
      have HU := Lib.hid hu
      clear ht htd hu hud
      go_enter Try.func24, Try.ntmps24
      go_wp2
      go_loopw [11, 12] (fun y s wr => ∃ k : Nat, s = .int .i64 (t + (k : Int)) ∧ (k : Int) ≤ 36525 ∧ (t + (k : Int) ≤ u + 1 ∨ k = 0) ∧ wr.ownsRow w.heap.size 3 1 y (actTo l x i t k).length ((actTo l x i t k).map (Value.int .i64)) ∧ Hid (Below w.heap.size w wr)) (fun _ s _ => (36525 - (intOf s)).toNat)
      case atStart => exact ⟨0, by rw [T0.out]; rfl, by omega, Or.inr rfl, World.ownsRow_nil _ _ _ _, Lib.hid (Below.refl _ _)⟩
      case round =>
        obtain ⟨k, rfl, hk, hku, hown, HB⟩ := hrel
        by_cases hv : t + (k : Int) ≤ u
        · have LL := Lib.hid (L.out.stays HB.out)
          have XX := Lib.hid (X.out.stays HB.out)
          have hil := act_len l x i t k
          obtain ⟨s, hs⟩ : ∃ s, s = actB l x i (t + (k : Int)) := ⟨_, rfl⟩
          have hc := ract_any A B n c m g l x i (t + (k : Int)) wr LL.out XX.out hn hm
          rw [← hs] at hc
          have HE := Lib.hid (act_step l x i t k)
          have HS := Lib.hid hs
          have HO := Lib.hid hown
          clear hs hown
          cases s
          · go_wp2_with fail
            refine hc.mono ?_
            rintro e w' ⟨rfl, rfl⟩
            have hown := HO.out
            clear HO
            go_wp2
            go_roundw
            case rel => exact ⟨k + 1, by go_num, by omega, by omega, by rw [HE.out, ← HS.out]; exact hown, HB⟩
            case measure => simp [intOf]; omega
          · go_wp2_with fail
            refine hc.mono ?_
            rintro e w' ⟨rfl, rfl⟩
            have hown := HO.out
            clear HO
            obtain ⟨z, hz⟩ : ∃ z, z = (actTo l x i t k).length := ⟨_, rfl⟩
            rw [← hz] at hown hil
            have HZ := Lib.hid hz
            clear hz
            go_wp2_with (at_builtin; refine wpList_append_own _ rfl _ _ 43 rfl w.heap.size 3 i0 (.int .i64 0) 1 8 Try.underlying43 hi hz0 hz1 hz2 rfl (by decide) _ _ _ rfl (hown.alloc _) ⟨wr.heap.size, 0, none⟩ 1 1 [.int .i64 (t + (k : Int))] rfl rfl (cell_new1 _ _ _) (by intro u hu; simp at hu; subst hu; rfl) (by unfold maxLen; omega) (by omega) (balloc HB.out _ r).size ?_; intro v' w1 hown' hgrow _)
            have R : Below w.heap.size w w1 := below_app HB.out HB.out.size (Nat.le_refl _) hown hgrow
            clear hown hgrow
            go_wp2
            go_roundw
            case rel => exact ⟨k + 1, by go_num, by omega, by omega, by rw [HE.out, ← HS.out, if_pos rfl, List.length_append, ← HZ.out, List.map_append]; exact hown', Lib.hid R⟩
            case measure => simp [intOf]; omega
        · go_wp2
          go_ret
          rw [days_eq HT.out HU.out hku (by omega)]
          exact MadeInts.mk hown HB.out
  · obtain rfl : t = p := htd.2.1 (by omega)
    by_cases hq0 : 36524 < q
    · obtain rfl : u = 36524 := hud.2.2 hq0
      have HT := Lib.hid ht
      have HU := Lib.hid hu
      clear ht htd hu hud
      go_enter Try.func24, Try.ntmps24
      go_wp2
      go_loopw [11, 12] (fun y s wr => ∃ k : Nat, s = .int .i64 (t + (k : Int)) ∧ (k : Int) ≤ 36525 ∧ (t + (k : Int) ≤ 36524 + 1 ∨ k = 0) ∧ wr.ownsRow w.heap.size 3 1 y (actTo l x i t k).length ((actTo l x i t k).map (Value.int .i64)) ∧ Hid (Below w.heap.size w wr)) (fun _ s _ => (36525 - (intOf s)).toNat)
      case atStart => exact ⟨0, by simp, by omega, Or.inr rfl, World.ownsRow_nil _ _ _ _, Lib.hid (Below.refl _ _)⟩
      case round =>
        obtain ⟨k, rfl, hk, hku, hown, HB⟩ := hrel
        by_cases hv : t + (k : Int) ≤ 36524
        · have LL := Lib.hid (L.out.stays HB.out)
          have XX := Lib.hid (X.out.stays HB.out)
          have hil := act_len l x i t k
          obtain ⟨s, hs⟩ : ∃ s, s = actB l x i (t + (k : Int)) := ⟨_, rfl⟩
          have hc := ract_any A B n c m g l x i (t + (k : Int)) wr LL.out XX.out hn hm
          rw [← hs] at hc
          have HE := Lib.hid (act_step l x i t k)
          have HS := Lib.hid hs
          have HO := Lib.hid hown
          clear hs hown
          cases s
          · go_wp2_with fail
            refine hc.mono ?_
            rintro e w' ⟨rfl, rfl⟩
            have hown := HO.out
            clear HO
            go_wp2
            go_roundw
            case rel => exact ⟨k + 1, by go_num, by omega, by omega, by rw [HE.out, ← HS.out]; exact hown, HB⟩
            case measure => simp [intOf]; omega
          · go_wp2_with fail
            refine hc.mono ?_
            rintro e w' ⟨rfl, rfl⟩
            have hown := HO.out
            clear HO
            obtain ⟨z, hz⟩ : ∃ z, z = (actTo l x i t k).length := ⟨_, rfl⟩
            rw [← hz] at hown hil
            have HZ := Lib.hid hz
            clear hz
            go_wp2_with (at_builtin; refine wpList_append_own _ rfl _ _ 43 rfl w.heap.size 3 i0 (.int .i64 0) 1 8 Try.underlying43 hi hz0 hz1 hz2 rfl (by decide) _ _ _ rfl (hown.alloc _) ⟨wr.heap.size, 0, none⟩ 1 1 [.int .i64 (t + (k : Int))] rfl rfl (cell_new1 _ _ _) (by intro u hu; simp at hu; subst hu; rfl) (by unfold maxLen; omega) (by omega) (balloc HB.out _ r).size ?_; intro v' w1 hown' hgrow _)
            have R : Below w.heap.size w w1 := below_app HB.out HB.out.size (Nat.le_refl _) hown hgrow
            clear hown hgrow
            go_wp2
            go_roundw
            case rel => exact ⟨k + 1, by go_num, by omega, by omega, by rw [HE.out, ← HS.out, if_pos rfl, List.length_append, ← HZ.out, List.map_append]; exact hown', Lib.hid R⟩
            case measure => simp [intOf]; omega
        · go_wp2
          go_ret
          rw [days_eq HT.out HU.out hku (by omega)]
          exact MadeInts.mk hown HB.out
    · obtain rfl : u = q := hud.2.1 (by omega)
      have HT := Lib.hid ht
      have HU := Lib.hid hu
      clear ht htd hu hud
      go_enter Try.func24, Try.ntmps24
      go_wp2
      go_loopw [11, 12] (fun y s wr => ∃ k : Nat, s = .int .i64 (t + (k : Int)) ∧ (k : Int) ≤ 36525 ∧ (t + (k : Int) ≤ u + 1 ∨ k = 0) ∧ wr.ownsRow w.heap.size 3 1 y (actTo l x i t k).length ((actTo l x i t k).map (Value.int .i64)) ∧ Hid (Below w.heap.size w wr)) (fun _ s _ => (36525 - (intOf s)).toNat)
      case atStart => exact ⟨0, by simp, by omega, Or.inr rfl, World.ownsRow_nil _ _ _ _, Lib.hid (Below.refl _ _)⟩
      case round =>
        obtain ⟨k, rfl, hk, hku, hown, HB⟩ := hrel
        by_cases hv : t + (k : Int) ≤ u
        · have LL := Lib.hid (L.out.stays HB.out)
          have XX := Lib.hid (X.out.stays HB.out)
          have hil := act_len l x i t k
          obtain ⟨s, hs⟩ : ∃ s, s = actB l x i (t + (k : Int)) := ⟨_, rfl⟩
          have hc := ract_any A B n c m g l x i (t + (k : Int)) wr LL.out XX.out hn hm
          rw [← hs] at hc
          have HE := Lib.hid (act_step l x i t k)
          have HS := Lib.hid hs
          have HO := Lib.hid hown
          clear hs hown
          cases s
          · go_wp2_with fail
            refine hc.mono ?_
            rintro e w' ⟨rfl, rfl⟩
            have hown := HO.out
            clear HO
            go_wp2
            go_roundw
            case rel => exact ⟨k + 1, by go_num, by omega, by omega, by rw [HE.out, ← HS.out]; exact hown, HB⟩
            case measure => simp [intOf]; omega
          · go_wp2_with fail
            refine hc.mono ?_
            rintro e w' ⟨rfl, rfl⟩
            have hown := HO.out
            clear HO
            obtain ⟨z, hz⟩ : ∃ z, z = (actTo l x i t k).length := ⟨_, rfl⟩
            rw [← hz] at hown hil
            have HZ := Lib.hid hz
            clear hz
            go_wp2_with (at_builtin; refine wpList_append_own _ rfl _ _ 43 rfl w.heap.size 3 i0 (.int .i64 0) 1 8 Try.underlying43 hi hz0 hz1 hz2 rfl (by decide) _ _ _ rfl (hown.alloc _) ⟨wr.heap.size, 0, none⟩ 1 1 [.int .i64 (t + (k : Int))] rfl rfl (cell_new1 _ _ _) (by intro u hu; simp at hu; subst hu; rfl) (by unfold maxLen; omega) (by omega) (balloc HB.out _ r).size ?_; intro v' w1 hown' hgrow _)
            have R : Below w.heap.size w w1 := below_app HB.out HB.out.size (Nat.le_refl _) hown hgrow
            clear hown hgrow
            go_wp2
            go_roundw
            case rel => exact ⟨k + 1, by go_num, by omega, by omega, by rw [HE.out, ← HS.out, if_pos rfl, List.length_append, ← HZ.out, List.map_append]; exact hown', Lib.hid R⟩
            case measure => simp [intOf]; omega
        · go_wp2
          go_ret
          rw [days_eq HT.out HU.out hku (by omega)]
          exact MadeInts.mk hown HB.out
end Go.Proofs.Ytjmjejpfilejdaa
