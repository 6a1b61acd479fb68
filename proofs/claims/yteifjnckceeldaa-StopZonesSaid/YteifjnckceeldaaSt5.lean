/-
  The examples of the chapter on stops.
-/
import Derived.Test.YteifjnckceeldaaSt4
namespace Go.Proofs.Yteifjnckceeldaa
open Go.RowKit

theorem lit_at {α : Type} (C : Codec α) (w : World) (xs : List α) (n : Nat) (cs : Array Value) (hn : xs.length = n) (hc : cs.toList = C.all xs) (h63 : n ≤ maxLen) (hs : 0 < C.sz) (t : TypeId) :
    SAt C (w.alloc (.cells cs t)) (some ⟨w.heap.size, 0, none⟩) n xs := SAt.own (own_lit C w 0 (by omega) xs n cs hn hc h63 t) hs
/-- the bytes of one letter -/
abbrev bA : ByteArray := { data := #[65] }
abbrev bB : ByteArray := { data := #[66] }
def ex1 : List Stop := [⟨bA, 2, false, 120⟩, ⟨bB, 2, true, 0⟩]
def ex2 : List Stop := [⟨bA, 2, false, 0⟩, ⟨bA, 2, false, 0⟩]
def ex3 : List Stop := [⟨bA, 2, false, 0⟩, ⟨bB, 16, false, 0⟩]
theorem ex1_chk : chkI ex1 = 0 ∧ chkE ex1 = 0 := by decide +kernel
theorem ex2_chk : chkI ex2 = 1 ∧ chkE ex2 = 6 := by decide +kernel
theorem ex3_chk : chkI ex3 = 1 ∧ chkE ex3 = 2 := by decide +kernel
theorem ex1_find : findI ex1 bB = 1 ∧ findB ex1 bB = true := by decide +kernel
theorem ex1_zones : zonesTo ex1 2 = 4 := by decide +kernel
theorem ex1_free : freeTo ex1 2 = 2 := by decide +kernel
theorem ex1_in : inTo ex1 2 2 = [0, 1] := by decide +kernel
theorem ex_size {xs : List Stop} (h : ∀ k, k < 2 → (gs xs k).id.size ≤ 1) : ∀ k, k < 2 → (gs xs k).id.size ≤ 9223372036854775807 := fun k hk => by have := h k hk; omega
theorem ex1_size : ∀ k, k < 2 → (gs ex1 k).id.size ≤ 1 := by decide +kernel
theorem ex2_size : ∀ k, k < 2 → (gs ex2 k).id.size ≤ 1 := by decide +kernel
theorem ex3_size : ∀ k, k < 2 → (gs ex3 k).id.size ≤ 1 := by decide +kernel
theorem ex_check {xs : List Stop} {i f : Int} (h : chkI xs = i ∧ chkE xs = f) (hs : ∀ k, k < 2 → (gs xs k).id.size ≤ 1) (A : Option Addr) (c : Nat) (w : World) (hx : SAt stopC w A 2 xs) :
    Calls Try.prog 12 #[.slice A 2 c] w fun e w' => e = .returned (.tuple #[.int .i64 i, .int .i64 f]) ∧ Below w.heap.size w w' := by
  have := check_any A 2 c xs w hx (ex_size hs)
  rw [h.1, h.2] at this
  exact this
theorem ex_find (A : Option Addr) (c : Nat) (w : World) (hx : SAt stopC w A 2 ex1) :
    Calls Try.prog 14 #[.slice A 2 c, .string bB] w fun e w' => e = .returned (.tuple #[.int .i64 1, .bool true]) ∧ Below w.heap.size w w' := by
  have := find_any A 2 c ex1 bB w hx (by omega)
  rw [ex1_find.1, ex1_find.2] at this
  exact this
theorem ex_zones (A : Option Addr) (c : Nat) (w : World) (hx : SAt stopC w A 2 ex1) :
    Calls Try.prog 16 #[.slice A 2 c] w fun e w' => e = .returned (.int .u64 4) ∧ Below w.heap.size w w' := by
  have := zones_any A 2 c ex1 w hx (by omega)
  rw [hx.1, ex1_zones] at this
  exact this
theorem ex_free (A : Option Addr) (c : Nat) (w : World) (hx : SAt stopC w A 2 ex1) :
    Calls Try.prog 21 #[.slice A 2 c] w fun e w' => e = .returned (.int .u64 2) ∧ Below w.heap.size w w' := by
  have := free_any A 2 c ex1 w hx (by omega)
  rw [hx.1, ex1_free] at this
  exact this
theorem ex_in (A : Option Addr) (c : Nat) (w : World) (hx : SAt stopC w A 2 ex1) :
    Calls Try.prog 19 #[.slice A 2 c, .int .i64 2] w fun e w' => MadeInts w [0, 1] e w' := by
  have := inzone_any A 2 c ex1 2 w hx (by omega)
  rw [hx.1, ex1_in] at this
  exact this
theorem same_self (A B : Option Addr) (n m c d : Nat) (xs ys : List Int) (w : World) (e : xs = ys) (hx : IntsAt w A n xs) (hy : IntsAt w B m ys) (hn : n ≤ 1000) :
    Calls Try.prog 18 #[.slice A n c, .slice B m d] w fun e w' => e = .returned (.bool true) ∧ ∃ q, w' = w.drewN q := by
  subst e
  have hm : m = n := by rw [← hx.1, ← hy.1]
  have := same_any A B n m c d xs xs w hx hy (by omega) (by omega)
  rw [sameB_self] at this
  exact this

set_option maxHeartbeats 2000000 in
theorem example_any (w : World) : Calls Try.prog 11 #[] w fun e w' => e = .returned (.bool true) ∧ Below w.heap.size w w' := by
  have r := Nat.le_refl w.heap.size
  go_enter Try.func11, Try.ntmps11
  go_wp2_with fail
  have HL := Lib.hid (lit_at stopC w ex1 2 #[.string bA, .int .i64 2, .bool false, .int .i64 120, .string bB, .int .i64 2, .bool true, .int .i64 0] rfl rfl (by unfold maxLen; omega) (by decide) 43)
  have HB := Lib.hid (balloc (Below.refl w.heap.size w) (.cells #[.string bA, .int .i64 2, .bool false, .int .i64 120, .string bB, .int .i64 2, .bool true, .int .i64 0] 43) r)
  refine (ex_check ex1_chk ex1_size _ _ _ HL.out).mono ?_
  rintro e w1 ⟨rfl, hb⟩
  have HL := Lib.hid (HL.out.stays hb)
  have HB := Lib.hid (bthen HB.out hb r)
  clear hb
  go_wp2_with fail
  refine (ex_find _ _ _ HL.out).mono ?_
  rintro e w2 ⟨rfl, hb⟩
  have HL := Lib.hid (HL.out.stays hb)
  have HB := Lib.hid (bthen HB.out hb r)
  clear hb
  go_wp2_with fail
  refine (ex_check ex2_chk ex2_size _ _ _ (lit_at stopC w2 ex2 2 #[.string bA, .int .i64 2, .bool false, .int .i64 0, .string bA, .int .i64 2, .bool false, .int .i64 0] rfl rfl (by unfold maxLen; omega) (by decide) 43)).mono ?_
  rintro e w3 ⟨rfl, hb⟩
  have hb := bthen (balloc (Below.refl w2.heap.size w2) _ (Nat.le_refl _)) hb (Nat.le_refl _)
  have HL := Lib.hid (HL.out.stays hb)
  have HB := Lib.hid (bthen HB.out hb r)
  clear hb
  go_wp2_with fail
  refine (ex_check ex3_chk ex3_size _ _ _ (lit_at stopC w3 ex3 2 #[.string bA, .int .i64 2, .bool false, .int .i64 0, .string bB, .int .i64 16, .bool false, .int .i64 0] rfl rfl (by unfold maxLen; omega) (by decide) 43)).mono ?_
  rintro e w4 ⟨rfl, hb⟩
  have hb := bthen (balloc (Below.refl w3.heap.size w3) _ (Nat.le_refl _)) hb (Nat.le_refl _)
  have HL := Lib.hid (HL.out.stays hb)
  have HB := Lib.hid (bthen HB.out hb r)
  clear hb
  go_wp2_with fail
  refine (ex_zones _ _ _ HL.out).mono ?_
  rintro e w5 ⟨rfl, hb⟩
  have HL := Lib.hid (HL.out.stays hb)
  have HB := Lib.hid (bthen HB.out hb r)
  clear hb
  go_wp2_with fail
  refine (ex_in _ _ _ HL.out).mono ?_
  rintro e w6 ⟨A6, c6, rfl, hi, hu, hc, hb, _⟩
  have HI := Lib.hid (hi.stays (balloc (Below.refl w6.heap.size w6) (.cells #[.int .i64 0, .int .i64 1] 3) (Nat.le_refl _)))
  have HJ := Lib.hid (IntsAt.lit w6 3 [0, 1])
  have hb := bthen hb (balloc (Below.refl w6.heap.size w6) (.cells #[.int .i64 0, .int .i64 1] 3) (Nat.le_refl _)) (Nat.le_refl _)
  have HL := Lib.hid (HL.out.stays hb)
  have HB := Lib.hid (bthen HB.out hb r)
  clear hb hi hu hc
  go_wp2_with fail
  refine (same_self _ _ _ _ _ _ [0, 1] [0, 1] _ rfl HI.out HJ.out (by decide)).mono ?_
  rintro e w7 ⟨rfl, q, rfl⟩
  have HL := Lib.hid (HL.out.drewN q)
  have HB := Lib.hid (bdrewN HB.out q)
  go_wp2_with fail
  refine (ex_free _ _ _ HL.out).mono ?_
  rintro e w8 ⟨rfl, hb⟩
  have HB := Lib.hid (bthen HB.out hb r)
  clear hb
  go_wp2
  go_ret
  exact ⟨rfl, HB.out⟩
end Go.Proofs.Yteifjnckceeldaa
