/-
  The examples of the chapter on calendars. Printed by gen/calx.py.
-/
import Derived.Test.YtjmjejpfilejdaaCalC
import Derived.Deep.RegionHeld3
import Derived.Deep.CutRange
namespace Go.Proofs.Ytjmjejpfilejdaa
open Go.RowKit

theorem lit_at {α : Type} (C : Codec α) (w : World) (xs : List α) (n : Nat) (cs : Array Value) (hn : xs.length = n) (hc : cs.toList = C.all xs) (h63 : n ≤ maxLen) (hs : 0 < C.sz) (t : TypeId) :
    SAt C (w.alloc (.cells cs t)) (some ⟨w.heap.size, 0, none⟩) n xs := SAt.own (own_lit C w 0 (by omega) xs n cs hn hc h63 t) hs
/-- the bytes of 'work' -/
abbrev bWork : ByteArray := { data := #[119, 111, 114, 107] }
/-- the calendar of the example, its first k weekdays set -/
def exAt (k : Nat) : Cal := ⟨bWork, fun d => decide (d < k), 0, 13⟩
def exL : List Cal := [exAt 5]
def exX : List Exc := [⟨0, 2, false⟩, ⟨0, 7, true⟩]
theorem ex_r2 : reasonI exL exX 0 2 = 3 := by decide +kernel
theorem ex_r3 : reasonI exL exX 0 3 = 1 := by decide +kernel
theorem ex_r8 : reasonI exL exX 0 8 = 4 := by decide +kernel
theorem ex_r7 : reasonI exL exX 0 7 = 2 := by decide +kernel
theorem ex_r14 : reasonI exL exX 0 14 = 5 := by decide +kernel
theorem ex_r12 : reasonI exL exX 1 2 = 0 := by decide +kernel
theorem ex_rm : reasonI exL exX 0 (-1) = 0 := by decide +kernel
theorem ex_a7 : actB exL exX 0 7 = true := by decide +kernel
theorem ex_a2 : actB exL exX 0 2 = false := by decide +kernel
theorem ex_days : daysL exL exX 0 0 7 = [3, 4, 5, 6, 7] := by decide +kernel
theorem ex_next : nextI exL exX 0 0 = 3 ∧ nextB exL exX 0 0 = true := next_at (t := 0) (by decide) (by decide) ⟨by decide, fun e h0 h1 => by
  rcases (by omega : e = 0 ∨ e = 1 ∨ e = 2) with rfl | rfl | rfl <;> decide +kernel⟩ (by decide +kernel)
theorem ex_prev : prevI exL exX 0 8 = 7 ∧ prevB exL exX 0 8 = true := prev_at (t := 8) (by decide) (by decide) ⟨by decide, fun e h0 h1 => by
  obtain rfl : e = 8 := by omega
  decide +kernel⟩ (by decide +kernel)
theorem ex_out (d : Int) (h : 14 ≤ d) : actB exL exX 0 d = false := by
  have hr : reasonI exL exX 0 d = 5 ∨ reasonI exL exX 0 d = 0 := by
    cases hd : dayB d
    · exact Or.inr (reason_day hd)
    · refine Or.inl (reason_out (l := exL) (x := exX) (n := 1) (m := 2) (a := 0) rfl (by decide) hd rfl (fun j hj => ?_) (Or.inr (show (13 : Int) < d by omega)))
      rcases (by omega : j = 0 ∨ j = 1) with rfl | rfl
      · exact hit_day (show (2 : Int) ≠ d by omega)
      · exact hit_day (show (7 : Int) ≠ d by omega)
  unfold actB
  rcases hr with h | h <;> rw [h] <;> rfl
theorem ex_none : nextI exL exX 0 14 = 0 ∧ nextB exL exX 0 14 = false := next_none (t := 14) (v := 36525) (by decide) (by decide) ⟨by decide, fun e h0 _ => ex_out e h0⟩
def exL2 : List Cal := [exAt 5, exAt 5]
def exX2 : List Exc := [⟨0, 1, false⟩, ⟨1, 0, false⟩]
theorem ex_chk : chkI (errC exL2) 64 2 = 1 ∧ chkE (errC exL2) 64 2 = 6 := by decide +kernel
theorem ex_chkx : chkI (errX exX2 1) 256 2 = 1 ∧ chkE (errX exX2 1) 256 2 = 9 := by decide +kernel

set_option maxHeartbeats 2000000 in
theorem ex_any (w : World) : Calls Try.prog 29 #[] w fun e w' => ∃ b b' : Nat, e = .returned (.tuple #[.slice (some ⟨b, 0, none⟩) 1 1, .slice (some ⟨b', 0, none⟩) 2 2]) ∧ Hid (SAt calC w' (some ⟨b, 0, none⟩) 1 exL) ∧ Hid (SAt excC w' (some ⟨b', 0, none⟩) 2 exX) ∧ Below w.heap.size w w' := by
  go_enter Try.func29, Try.ntmps29
  go_wp2
  go_loopw [3] (fun i wr => ∃ k : Nat, k ≤ 5 ∧ i = .int .i64 k ∧ wr = w.alloc (.cells (calA (exAt k)) 50)) (fun i _ => 5 - (intOf i).toNat)
  case atStart => exact ⟨0, by omega, rfl, rfl⟩
  case round =>
    obtain ⟨k, hk, rfl, rfl⟩ := hrel
    rcases (by omega : k = 0 ∨ k = 1 ∨ k = 2 ∨ k = 3 ∨ k = 4 ∨ k = 5) with rfl | rfl | rfl | rfl | rfl | rfl
    iterate 5
      go_wp2
      go_roundw
      case rel => exact ⟨_ + 1, by decide, rfl, rfl⟩
      case measure => decide
    go_wp2
    go_ret2
    refine ⟨_, _, rfl, Lib.hid ?_, Lib.hid ?_, balloc (balloc (balloc (Below.refl _ _) _ (Nat.le_refl _)) _ (Nat.le_refl _)) _ (Nat.le_refl _)⟩
    · have := (lit_at calC (w.alloc (.cells (calA (exAt 5)) 50)) exL 1 (calA (exAt 5)) rfl rfl (by decide) (by decide) 50).alloc (.cells #[.int .i64 0, .int .i64 2, .bool false, .int .i64 0, .int .i64 7, .bool true] 53)
      rwa [World.size_alloc] at this
    · have := lit_at excC ((w.alloc (.cells (calA (exAt 5)) 50)).alloc (.cells (calA (exAt 5)) 50)) exX 2 #[.int .i64 0, .int .i64 2, .bool false, .int .i64 0, .int .i64 7, .bool true] rfl rfl (by decide) (by decide) 53
      rwa [World.size_alloc, World.size_alloc] at this
/-- the cells of the example's calendar -/
theorem ex_cells {w : World} {b : Nat} (h : SAt calC w (some ⟨b, 0, none⟩) 1 exL) : w.cell? ⟨b, 0, none⟩ = some (.string bWork) ∧ w.cell? ⟨b, 1, none⟩ = some (.bool true) ∧ w.cell? ⟨b, 2, none⟩ = some (.bool true) ∧ w.cell? ⟨b, 3, none⟩ = some (.bool true) ∧ w.cell? ⟨b, 4, none⟩ = some (.bool true) ∧ w.cell? ⟨b, 5, none⟩ = some (.bool true) ∧ w.cell? ⟨b, 6, none⟩ = some (.bool false) ∧ w.cell? ⟨b, 7, none⟩ = some (.bool false) ∧ w.cell? ⟨b, 8, none⟩ = some (.int .i64 0) ∧ w.cell? ⟨b, 9, none⟩ = some (.int .i64 13) := by
  have hc := h.cells (k := 0) (by decide)
  exact ⟨hc 0 _ rfl, hc 1 _ rfl, hc 2 _ rfl, hc 3 _ rfl, hc 4 _ rfl, hc 5 _ rfl, hc 6 _ rfl, hc 7 _ rfl, hc 8 _ rfl, hc 9 _ rfl⟩
theorem cells_stay {u u' : World} {b : Nat} (h : u.cell? ⟨b, 0, none⟩ = some (.string bWork) ∧ u.cell? ⟨b, 1, none⟩ = some (.bool true) ∧ u.cell? ⟨b, 2, none⟩ = some (.bool true) ∧ u.cell? ⟨b, 3, none⟩ = some (.bool true) ∧ u.cell? ⟨b, 4, none⟩ = some (.bool true) ∧ u.cell? ⟨b, 5, none⟩ = some (.bool true) ∧ u.cell? ⟨b, 6, none⟩ = some (.bool false) ∧ u.cell? ⟨b, 7, none⟩ = some (.bool false) ∧ u.cell? ⟨b, 8, none⟩ = some (.int .i64 0) ∧ u.cell? ⟨b, 9, none⟩ = some (.int .i64 13)) (hb : Below u.heap.size u u') : u'.cell? ⟨b, 0, none⟩ = some (.string bWork) ∧ u'.cell? ⟨b, 1, none⟩ = some (.bool true) ∧ u'.cell? ⟨b, 2, none⟩ = some (.bool true) ∧ u'.cell? ⟨b, 3, none⟩ = some (.bool true) ∧ u'.cell? ⟨b, 4, none⟩ = some (.bool true) ∧ u'.cell? ⟨b, 5, none⟩ = some (.bool true) ∧ u'.cell? ⟨b, 6, none⟩ = some (.bool false) ∧ u'.cell? ⟨b, 7, none⟩ = some (.bool false) ∧ u'.cell? ⟨b, 8, none⟩ = some (.int .i64 0) ∧ u'.cell? ⟨b, 9, none⟩ = some (.int .i64 13) := by
  obtain ⟨h0, h1, h2, h3, h4, h5, h6, h7, h8, h9⟩ := h
  have f : ∀ (j : Nat) (v : Value), u.cell? ⟨b, j, none⟩ = some v → u'.cell? ⟨b, j, none⟩ = some v := fun j v h => (hb.cell (cell?_block_lt h)).trans h
  exact ⟨f _ _ h0, f _ _ h1, f _ _ h2, f _ _ h3, f _ _ h4, f _ _ h5, f _ _ h6, f _ _ h7, f _ _ h8, f _ _ h9⟩
theorem ex_n0 (A B : Option Addr) (c g : Nat) (w : World) (hl : SAt calC w A 1 exL) (hx : SAt excC w B 2 exX) :
    Calls Try.prog 25 #[.slice A 1 c, .slice B 2 g, .int .i64 0, .int .i64 0] w fun e w' => e = .returned (.tuple #[.int .i64 3, .bool true]) ∧ Below w.heap.size w w' := by
  have := next_any A B 1 c 2 g exL exX 0 0 w hl hx (by decide) (by decide)
  rw [ex_next.1, ex_next.2] at this
  exact this
theorem ex_p8 (A B : Option Addr) (c g : Nat) (w : World) (hl : SAt calC w A 1 exL) (hx : SAt excC w B 2 exX) :
    Calls Try.prog 27 #[.slice A 1 c, .slice B 2 g, .int .i64 0, .int .i64 8] w fun e w' => e = .returned (.tuple #[.int .i64 7, .bool true]) ∧ Below w.heap.size w w' := by
  have := prev_any A B 1 c 2 g exL exX 0 8 w hl hx (by decide) (by decide)
  rw [ex_prev.1, ex_prev.2] at this
  exact this
theorem ex_n14 (A B : Option Addr) (c g : Nat) (w : World) (hl : SAt calC w A 1 exL) (hx : SAt excC w B 2 exX) :
    Calls Try.prog 25 #[.slice A 1 c, .slice B 2 g, .int .i64 0, .int .i64 14] w fun e w' => e = .returned (.tuple #[.int .i64 0, .bool false]) ∧ Below w.heap.size w w' := by
  have := next_any A B 1 c 2 g exL exX 0 14 w hl hx (by decide) (by decide)
  rw [ex_none.1, ex_none.2] at this
  exact this
theorem ex_r2c (A B : Option Addr) (c g : Nat) (w : World) (hl : SAt calC w A 1 exL) (hx : SAt excC w B 2 exX) :
    Calls Try.prog 18 #[.slice A 1 c, .slice B 2 g, .int .i64 0, .int .i64 2] w fun e w' => e = .returned (.int .i64 3) ∧ Below w.heap.size w w' := by
  have := reason_any A B 1 c 2 g exL exX 0 2 w hl hx (by decide) (by decide)
  rw [ex_r2] at this
  exact this
theorem ex_r3c (A B : Option Addr) (c g : Nat) (w : World) (hl : SAt calC w A 1 exL) (hx : SAt excC w B 2 exX) :
    Calls Try.prog 18 #[.slice A 1 c, .slice B 2 g, .int .i64 0, .int .i64 3] w fun e w' => e = .returned (.int .i64 1) ∧ Below w.heap.size w w' := by
  have := reason_any A B 1 c 2 g exL exX 0 3 w hl hx (by decide) (by decide)
  rw [ex_r3] at this
  exact this
theorem ex_r8c (A B : Option Addr) (c g : Nat) (w : World) (hl : SAt calC w A 1 exL) (hx : SAt excC w B 2 exX) :
    Calls Try.prog 18 #[.slice A 1 c, .slice B 2 g, .int .i64 0, .int .i64 8] w fun e w' => e = .returned (.int .i64 4) ∧ Below w.heap.size w w' := by
  have := reason_any A B 1 c 2 g exL exX 0 8 w hl hx (by decide) (by decide)
  rw [ex_r8] at this
  exact this
theorem ex_r7c (A B : Option Addr) (c g : Nat) (w : World) (hl : SAt calC w A 1 exL) (hx : SAt excC w B 2 exX) :
    Calls Try.prog 18 #[.slice A 1 c, .slice B 2 g, .int .i64 0, .int .i64 7] w fun e w' => e = .returned (.int .i64 2) ∧ Below w.heap.size w w' := by
  have := reason_any A B 1 c 2 g exL exX 0 7 w hl hx (by decide) (by decide)
  rw [ex_r7] at this
  exact this
theorem ex_r14c (A B : Option Addr) (c g : Nat) (w : World) (hl : SAt calC w A 1 exL) (hx : SAt excC w B 2 exX) :
    Calls Try.prog 18 #[.slice A 1 c, .slice B 2 g, .int .i64 0, .int .i64 14] w fun e w' => e = .returned (.int .i64 5) ∧ Below w.heap.size w w' := by
  have := reason_any A B 1 c 2 g exL exX 0 14 w hl hx (by decide) (by decide)
  rw [ex_r14] at this
  exact this
theorem ex_r12c (A B : Option Addr) (c g : Nat) (w : World) (hl : SAt calC w A 1 exL) (hx : SAt excC w B 2 exX) :
    Calls Try.prog 18 #[.slice A 1 c, .slice B 2 g, .int .i64 1, .int .i64 2] w fun e w' => e = .returned (.int .i64 0) ∧ Below w.heap.size w w' := by
  have := reason_any A B 1 c 2 g exL exX 1 2 w hl hx (by decide) (by decide)
  rw [ex_r12] at this
  exact this
theorem ex_rmc (A B : Option Addr) (c g : Nat) (w : World) (hl : SAt calC w A 1 exL) (hx : SAt excC w B 2 exX) :
    Calls Try.prog 18 #[.slice A 1 c, .slice B 2 g, .int .i64 0, .int .i64 (-1)] w fun e w' => e = .returned (.int .i64 0) ∧ Below w.heap.size w w' := by
  have := reason_any A B 1 c 2 g exL exX 0 (-1) w hl hx (by decide) (by decide)
  rw [ex_rm] at this
  exact this
theorem ex_a7c (A B : Option Addr) (c g : Nat) (w : World) (hl : SAt calC w A 1 exL) (hx : SAt excC w B 2 exX) :
    Calls Try.prog 20 #[.slice A 1 c, .slice B 2 g, .int .i64 0, .int .i64 7] w fun e w' => e = .returned (.bool true) ∧ Below w.heap.size w w' := by
  have := act_any A B 1 c 2 g exL exX 0 7 w hl hx (by decide) (by decide)
  rw [ex_a7] at this
  exact this
theorem ex_a2c (A B : Option Addr) (c g : Nat) (w : World) (hl : SAt calC w A 1 exL) (hx : SAt excC w B 2 exX) :
    Calls Try.prog 20 #[.slice A 1 c, .slice B 2 g, .int .i64 0, .int .i64 2] w fun e w' => e = .returned (.bool false) ∧ Below w.heap.size w w' := by
  have := act_any A B 1 c 2 g exL exX 0 2 w hl hx (by decide) (by decide)
  rw [ex_a2] at this
  exact this
theorem ex_daysc (A B : Option Addr) (c g : Nat) (w : World) (hl : SAt calC w A 1 exL) (hx : SAt excC w B 2 exX) :
    Calls Try.prog 23 #[.slice A 1 c, .slice B 2 g, .int .i64 0, .int .i64 0, .int .i64 7] w fun e w' => MadeInts w [3, 4, 5, 6, 7] e w' := by
  have := days_any A B 1 c 2 g exL exX 0 0 7 w hl hx (by decide) (by decide)
  rw [ex_days] at this
  exact this
theorem ex_checkc (A : Option Addr) (w : World) (hx : SAt calC w A 2 exL2) :
    Calls Try.prog 13 #[.slice A 2 2] w fun e w' => e = .returned (.tuple #[.int .i64 1, .int .i64 6]) ∧ Below w.heap.size w w' := by
  have := check_any A 2 2 exL2 w hx (fun k hk => by rcases (by omega : k = 0 ∨ k = 1) with rfl | rfl <;> decide)
  rw [ex_chk.1, ex_chk.2] at this
  exact this
theorem ex_checkxc (A : Option Addr) (w : World) (hx : SAt excC w A 2 exX2) :
    Calls Try.prog 15 #[.slice A 2 2, .int .i64 1] w fun e w' => e = .returned (.tuple #[.int .i64 1, .int .i64 9]) ∧ Below w.heap.size w w' := by
  have := checkx_any A 2 2 exX2 1 w hx (fun k hk => by rcases (by omega : k = 0 ∨ k = 1) with rfl | rfl <;> exact ⟨⟨by decide, by decide⟩, ⟨by decide, by decide⟩⟩)
  rw [ex_chkx.1, ex_chkx.2] at this
  exact this
theorem same_self (A B : Option Addr) (n m c d : Nat) (xs : List Int) (w : World) (hx : IntsAt w A n xs) (hy : IntsAt w B m xs) (hn : n ≤ 1000) :
    Calls Try.prog 22 #[.slice A n c, .slice B m d] w fun e w' => e = .returned (.bool true) ∧ ∃ q, w' = w.drewN q := by
  have hm : m = n := by rw [← hx.1, ← hy.1]
  have := same_any A B n m c d xs xs w hx hy (by omega) (by omega)
  rw [sameB_self] at this
  exact this

set_option maxRecDepth 100000 in
set_option maxHeartbeats 4000000 in
theorem example_any (w : World) : Calls Try.prog 12 #[] w fun e w' => e = .returned (.bool true) ∧ Below w.heap.size w w' := by
  have r := Nat.le_refl w.heap.size
  go_enter Try.func12, Try.ntmps12
  go_wp2_with fail
  refine (ex_any _).mono ?_
  rintro e w1 ⟨b, b', rfl, L, X, hb⟩
  have HB := Lib.hid hb
  clear hb
  go_wp2_with fail
  refine (ex_n0 _ _ _ _ _ L.out X.out).mono ?_
  rintro e w1 ⟨rfl, hb⟩
  have L := Lib.hid (L.out.stays hb)
  have X := Lib.hid (X.out.stays hb)
  have HB := Lib.hid (bthen HB.out hb r)
  clear hb
  go_wp2_with fail
  refine (ex_p8 _ _ _ _ _ L.out X.out).mono ?_
  rintro e w1 ⟨rfl, hb⟩
  have L := Lib.hid (L.out.stays hb)
  have X := Lib.hid (X.out.stays hb)
  have HB := Lib.hid (bthen HB.out hb r)
  clear hb
  go_wp2_with fail
  refine (ex_n14 _ _ _ _ _ L.out X.out).mono ?_
  rintro e w1 ⟨rfl, hb⟩
  have L := Lib.hid (L.out.stays hb)
  have X := Lib.hid (X.out.stays hb)
  have HB := Lib.hid (bthen HB.out hb r)
  clear hb
  go_upto_region 5 with fail
  have hS := ex_cells L.out
  have HK := ex_checkc (some ⟨w1.heap.size, 0, none⟩) (w1.alloc (.cells #[.string bWork, .bool true, .bool true, .bool true, .bool true, .bool true, .bool false, .bool false, .int .i64 0, .int .i64 13, .string bWork, .bool true, .bool true, .bool true, .bool true, .bool true, .bool false, .bool false, .int .i64 0, .int .i64 13] 50)).drew (SAt.drew (lit_at calC w1 exL2 2 #[.string bWork, .bool true, .bool true, .bool true, .bool true, .bool true, .bool false, .bool false, .int .i64 0, .int .i64 13, .string bWork, .bool true, .bool true, .bool true, .bool true, .bool true, .bool false, .bool false, .int .i64 0, .int .i64 13] rfl rfl (by decide) (by decide) 50))
  go_region_held3 (fun u => u.cell? ⟨b, 0, none⟩ = some (.string bWork) ∧ u.cell? ⟨b, 1, none⟩ = some (.bool true) ∧ u.cell? ⟨b, 2, none⟩ = some (.bool true) ∧ u.cell? ⟨b, 3, none⟩ = some (.bool true) ∧ u.cell? ⟨b, 4, none⟩ = some (.bool true) ∧ u.cell? ⟨b, 5, none⟩ = some (.bool true) ∧ u.cell? ⟨b, 6, none⟩ = some (.bool false) ∧ u.cell? ⟨b, 7, none⟩ = some (.bool false) ∧ u.cell? ⟨b, 8, none⟩ = some (.int .i64 0) ∧ u.cell? ⟨b, 9, none⟩ = some (.int .i64 13)) (first | exact hS | exact cells_stay hS (balloc (Below.refl _ w1) _ (Nat.le_refl _)).drew) ((go_simp; go_at_call 13; (with_reducible refine HK.mono ?_); rintro e w2 ⟨rfl, hb⟩; have hb := bthen (balloc (Below.refl w1.heap.size w1) _ (Nat.le_refl _)).drew hb (Nat.le_refl _); have L := Lib.hid (L.out.stays hb); have X := Lib.hid (X.out.stays hb); have HB := Lib.hid (bthen HB.out hb r); have hS := cells_stay hS hb; clear hb))
  go_wp2_with fail
  refine (ex_checkxc _ _ (lit_at excC w2 exX2 2 #[.int .i64 0, .int .i64 1, .bool false, .int .i64 1, .int .i64 0, .bool false] rfl rfl (by decide) (by decide) 53)).mono ?_
  rintro e w3 ⟨rfl, hb⟩
  have hb := bthen (balloc (Below.refl w2.heap.size w2) _ (Nat.le_refl _)) hb (Nat.le_refl _)
  have L := Lib.hid (L.out.stays hb)
  have X := Lib.hid (X.out.stays hb)
  have HB := Lib.hid (bthen HB.out hb r)
  clear hb hS HK
  go_wp2_with fail
  refine (ex_r2c _ _ _ _ _ L.out X.out).mono ?_
  rintro e w1 ⟨rfl, hb⟩
  have L := Lib.hid (L.out.stays hb)
  have X := Lib.hid (X.out.stays hb)
  have HB := Lib.hid (bthen HB.out hb r)
  clear hb
  go_wp2_with fail
  refine (ex_r3c _ _ _ _ _ L.out X.out).mono ?_
  rintro e w1 ⟨rfl, hb⟩
  have L := Lib.hid (L.out.stays hb)
  have X := Lib.hid (X.out.stays hb)
  have HB := Lib.hid (bthen HB.out hb r)
  clear hb
  go_wp2_with fail
  refine (ex_r8c _ _ _ _ _ L.out X.out).mono ?_
  rintro e w1 ⟨rfl, hb⟩
  have L := Lib.hid (L.out.stays hb)
  have X := Lib.hid (X.out.stays hb)
  have HB := Lib.hid (bthen HB.out hb r)
  clear hb
  go_wp2_with fail
  refine (ex_r7c _ _ _ _ _ L.out X.out).mono ?_
  rintro e w1 ⟨rfl, hb⟩
  have L := Lib.hid (L.out.stays hb)
  have X := Lib.hid (X.out.stays hb)
  have HB := Lib.hid (bthen HB.out hb r)
  clear hb
  go_wp2_with fail
  refine (ex_r14c _ _ _ _ _ L.out X.out).mono ?_
  rintro e w1 ⟨rfl, hb⟩
  have L := Lib.hid (L.out.stays hb)
  have X := Lib.hid (X.out.stays hb)
  have HB := Lib.hid (bthen HB.out hb r)
  clear hb
  go_wp2_with fail
  refine (ex_r12c _ _ _ _ _ L.out X.out).mono ?_
  rintro e w1 ⟨rfl, hb⟩
  have L := Lib.hid (L.out.stays hb)
  have X := Lib.hid (X.out.stays hb)
  have HB := Lib.hid (bthen HB.out hb r)
  clear hb
  go_wp2_with fail
  refine (ex_rmc _ _ _ _ _ L.out X.out).mono ?_
  rintro e w1 ⟨rfl, hb⟩
  have L := Lib.hid (L.out.stays hb)
  have X := Lib.hid (X.out.stays hb)
  have HB := Lib.hid (bthen HB.out hb r)
  clear hb
  go_wp2_with fail
  refine (ex_daysc _ _ _ _ _ L.out X.out).mono ?_
  rintro e w6 ⟨A6, c6, rfl, hi, hu, hc, hb, _⟩
  have HI := Lib.hid (hi.stays (balloc (Below.refl w6.heap.size w6) (.cells #[.int .i64 3, .int .i64 4, .int .i64 5, .int .i64 6, .int .i64 7] 3) (Nat.le_refl _)))
  have HJ := Lib.hid (IntsAt.lit w6 3 [3, 4, 5, 6, 7])
  have hb := bthen hb (balloc (Below.refl w6.heap.size w6) (.cells #[.int .i64 3, .int .i64 4, .int .i64 5, .int .i64 6, .int .i64 7] 3) (Nat.le_refl _)) (Nat.le_refl _)
  have L := Lib.hid (L.out.stays hb)
  have X := Lib.hid (X.out.stays hb)
  have HB := Lib.hid (bthen HB.out hb r)
  clear hb hi hu hc
  go_wp2_with fail
  refine (same_self _ _ _ _ _ _ [3, 4, 5, 6, 7] _ HI.out HJ.out (by decide)).mono ?_
  rintro e w7 ⟨rfl, q, rfl⟩
  have L := Lib.hid (L.out.drewN q)
  have X := Lib.hid (X.out.drewN q)
  have HB := Lib.hid (bdrewN HB.out q)
  clear HI HJ
  go_wp2_with fail
  refine (ex_a7c _ _ _ _ _ L.out X.out).mono ?_
  rintro e w1 ⟨rfl, hb⟩
  have L := Lib.hid (L.out.stays hb)
  have X := Lib.hid (X.out.stays hb)
  have HB := Lib.hid (bthen HB.out hb r)
  clear hb
  go_wp2_with fail
  refine (ex_a2c _ _ _ _ _ L.out X.out).mono ?_
  rintro e w1 ⟨rfl, hb⟩
  have L := Lib.hid (L.out.stays hb)
  have X := Lib.hid (X.out.stays hb)
  have HB := Lib.hid (bthen HB.out hb r)
  clear hb
  go_wp2
  go_ret
  exact ⟨rfl, HB.out⟩
end Go.Proofs.Ytjmjejpfilejdaa
