/-
  The examples of the chapter on routes; the walks of RouteChecks, RouteNames, RouteSelects, RouteTexts. Printed by gen/rtx.py.
-/
import Derived.Test.YtokjkllfkjiaiaaDoorRtH
namespace Go.Proofs.YtokjkllfkjiaiaaDoor
open Go.RowKit
open Bs (U64 oneN hasB withN)

theorem lit_at {α : Type} (C : Codec α) (w : World) (xs : List α) (n : Nat) (cs : Array Value) (hn : xs.length = n) (hc : cs.toList = C.all xs) (h63 : n ≤ maxLen) (hs : 0 < C.sz) (t : TypeId) :
    SAt C (w.alloc (.cells cs t)) (some ⟨w.heap.size, 0, none⟩) n xs := SAt.own (own_lit C w 0 (by omega) xs n cs hn hc h63 t) hs
abbrev sBR : ByteArray := { data := #[98, 117, 115, 43, 114, 97, 105, 108] }
abbrev sRB : ByteArray := { data := #[114, 97, 105, 108, 43, 98, 117, 115] }
abbrev sFu : ByteArray := { data := #[102, 117, 110, 105, 99, 117, 108, 97, 114] }
abbrev sa : ByteArray := { data := #[97] }
abbrev sb : ByteArray := { data := #[98] }
abbrev sc : ByteArray := { data := #[99] }
def exR : List Route := [⟨sa, 3, false⟩, ⟨sb, 0, false⟩, ⟨sc, 3, false⟩]
theorem ex_fmt : fmtS 9 = sBR ∧ fmtE 9 = 0 := by decide +kernel
theorem ex_p1 : parseI sRB = 0 ∧ parseE sRB = 3 := by decide +kernel
theorem ex_p2 : parseI noneS = 0 ∧ parseE noneS = 0 := by decide +kernel
theorem ex_find : frI exR sc = 2 ∧ frB exR sc = true := by decide +kernel
theorem ex_modes : modesTo exR 3 = 9 := by decide +kernel
theorem ex_with : withTo exR 8 3 = [0, 2] := by decide +kernel
theorem ex_fmtc (w : World) (hN : NamesAt w) : Calls Tryd.prog 18 #[.int .i64 9] w fun e w' => e = .returned (.tuple #[.string sBR, .int .i64 0]) ∧ Below w.heap.size w w' := by
  have := fmt_any 9 w hN
  rw [ex_fmt.1, ex_fmt.2] at this
  exact this
theorem ex_p1c (w : World) (hN : NamesAt w) : Calls Tryd.prog 20 #[.string sRB] w fun e w' => e = .returned (.tuple #[.int .i64 0, .int .i64 3]) ∧ w = w' := by
  have := parse_any sRB w (by decide) hN
  rw [ex_p1.1, ex_p1.2] at this
  exact this
theorem ex_p2c (w : World) (hN : NamesAt w) : Calls Tryd.prog 20 #[.string noneS] w fun e w' => e = .returned (.tuple #[.int .i64 0, .int .i64 0]) ∧ w = w' := by
  have := parse_any noneS w (by decide) hN
  rw [ex_p2.1, ex_p2.2] at this
  exact this
theorem ex_findc (A : Option Addr) (c : Nat) (w : World) (hx : SAt routeC w A 3 exR) : Calls Tryd.prog 26 #[.slice A 3 c, .string sc] w fun e w' => e = .returned (.tuple #[.int .i64 2, .bool true]) ∧ Below w.heap.size w w' := by
  have := find_any A 3 c exR sc w hx (by decide)
  rw [ex_find.1, ex_find.2] at this
  exact this
theorem ex_modesc (A : Option Addr) (c : Nat) (w : World) (hx : SAt routeC w A 3 exR) : Calls Tryd.prog 13 #[.slice A 3 c] w fun e w' => e = .returned (.int .u64 9) ∧ Below w.heap.size w w' := by
  have := modes_any A 3 c exR w hx (by decide)
  rw [ex_modes] at this
  exact this
theorem ex_withc (A : Option Addr) (c : Nat) (w : World) (hx : SAt routeC w A 3 exR) : Calls Tryd.prog 16 #[.slice A 3 c, .int .i64 8] w fun e w' => MadeInts w [0, 2] e w' := by
  have := withm_any A 3 c exR 8 w hx (by decide)
  rw [ex_with] at this
  exact this
theorem ex_m7c (w : World) (hN : NamesAt w) : Calls Tryd.prog 8 #[.int .i64 7] w fun e w' => e = .returned (.tuple #[.string sFu, .bool true]) ∧ w = w' := mname_yes 7 w (by omega) hN
theorem same_self (A B : Option Addr) (n m c d : Nat) (xs : List Int) (w : World) (hx : IntsAt w A n xs) (hy : IntsAt w B m xs) (hn : n ≤ 1000) :
    Calls Tryd.prog 15 #[.slice A n c, .slice B m d] w fun e w' => e = .returned (.bool true) ∧ ∃ q, w' = w.drewN q := by
  have hm : m = n := by rw [← hx.1, ← hy.1]
  have := same_any A B n m c d xs xs w hx hy (by omega) (by omega)
  rw [sameB_self] at this
  exact this

set_option maxRecDepth 100000 in
set_option maxHeartbeats 4000000 in
theorem example_any  (w : World) (hN : NamesAt w) :
    Calls Tryd.prog 12 #[] w fun e w' => e = .returned (.bool true) ∧ Below w.heap.size w w' := by
  have r := Nat.le_refl w.heap.size
  have N := Lib.hid hN
  have HB := Lib.hid (Below.refl w.heap.size w)
  clear hN
  go_enter Tryd.func12, Tryd.ntmps12
  go_wp2_with fail
  refine (ex_fmtc _ N.out).mono ?_
  rintro e w1 ⟨rfl, hb⟩
  have N := Lib.hid (N.out.stays hb)
  have HB := Lib.hid (bthen HB.out hb r)
  clear hb
  go_wp2_with fail
  refine (ex_p1c _ N.out).mono ?_
  rintro e w' ⟨rfl, rfl⟩
  go_wp2_with fail
  refine (ex_p2c _ N.out).mono ?_
  rintro e w' ⟨rfl, rfl⟩
  go_wp2_with fail
  have L := Lib.hid (lit_at routeC w1 exR 3 #[.string sa, .int .i64 3, .bool false, .string sb, .int .i64 0, .bool false, .string sc, .int .i64 3, .bool false] rfl rfl (by decide) (by decide) 52)
  have hb := balloc (Below.refl w1.heap.size w1) (.cells #[.string sa, .int .i64 3, .bool false, .string sb, .int .i64 0, .bool false, .string sc, .int .i64 3, .bool false] 52) (Nat.le_refl _)
  have N := Lib.hid (N.out.stays hb)
  have HB := Lib.hid (bthen HB.out hb r)
  clear hb
  refine (ex_findc _ _ _ L.out).mono ?_
  rintro e w2 ⟨rfl, hb⟩
  have N := Lib.hid (N.out.stays hb)
  have L := Lib.hid (L.out.stays hb)
  have HB := Lib.hid (bthen HB.out hb r)
  clear hb
  go_wp2_with fail
  refine (ex_m7c _ N.out).mono ?_
  rintro e w' ⟨rfl, rfl⟩
  go_wp2_with fail
  refine (ex_modesc _ _ _ L.out).mono ?_
  rintro e w3 ⟨rfl, hb⟩
  have N := Lib.hid (N.out.stays hb)
  have L := Lib.hid (L.out.stays hb)
  have HB := Lib.hid (bthen HB.out hb r)
  clear hb
  go_wp2_with fail
  refine (ex_withc _ _ _ L.out).mono ?_
  rintro e w4 ⟨AP, cP, rfl, hi, hu, hc, hb, _⟩
  have N := Lib.hid (N.out.stays hb)
  have L := Lib.hid (L.out.stays hb)
  have HB := Lib.hid (bthen HB.out hb r)
  clear hb
  have P := Lib.hid hi
  clear hi hu hc
  have J := Lib.hid (IntsAt.lit w4 3 [0, 2])
  have hb := balloc (Below.refl w4.heap.size w4) (.cells #[.int .i64 0, .int .i64 2] 3) (Nat.le_refl _)
  have N := Lib.hid (N.out.stays hb)
  have L := Lib.hid (L.out.stays hb)
  have P := Lib.hid (P.out.stays hb)
  have HB := Lib.hid (bthen HB.out hb r)
  clear hb
  go_wp2_with fail
  refine (same_self _ _ _ _ _ _ [0, 2] _ P.out J.out (by decide)).mono ?_
  rintro e w' ⟨rfl, q, rfl⟩
  have N := Lib.hid (N.out.drewN q)
  have L := Lib.hid (L.out.drewN q)
  have P := Lib.hid (P.out.drewN q)
  have HB := Lib.hid (bdrewN HB.out q)
  go_wp2
  go_ret
  exact ⟨rfl, HB.out⟩

set_option maxRecDepth 100000 in
set_option maxHeartbeats 4000000 in
theorem checks_walk (A : Option Addr) (n c : Nat) (l : List Route) (id : ByteArray) (w : World) (hl : SAt routeC w A n l) (hs : SizedR l) (_h2 : id.size ≤ 9223372036854775807) (hN : NamesAt w) :
    Calls Tryd.prog 7 #[.slice A n c, .string id] w fun e w' => e = .returned (.bool true) ∧ Below w.heap.size w w' := by
  have r := Nat.le_refl w.heap.size
  have N := Lib.hid hN
  have HB := Lib.hid (Below.refl w.heap.size w)
  clear hN
  have L := Lib.hid hl
  have HS := Lib.hid (hs.at_ hl.1)
  clear hl hs
  by_cases h100 : (100 : Int) < (n : Int)
  · go_enter Tryd.func7, Tryd.ntmps7
    go_wp2_with fail
    refine (example_any _ N.out).mono ?_
    rintro e w1 ⟨rfl, hb⟩
    have N := Lib.hid (N.out.stays hb)
    have L := Lib.hid (L.out.stays hb)
    have HB := Lib.hid (bthen HB.out hb r)
    clear hb
    go_wp2
    go_ret
    exact ⟨rfl, HB.out⟩
  · have hn : n ≤ 1000 := by omega
    go_enter Tryd.func7, Tryd.ntmps7
    go_wp2_with fail
    refine (check_any _ _ _ l _ L.out HS.out).mono ?_
    rintro e w1 ⟨rfl, hb⟩
    have N := Lib.hid (N.out.stays hb)
    have L := Lib.hid (L.out.stays hb)
    have HB := Lib.hid (bthen HB.out hb r)
    clear hb
    go_wp2_with fail
    refine (rcheck_any _ _ _ l _ L.out HS.out).mono ?_
    rintro e w' ⟨rfl, q, rfl⟩
    have N := Lib.hid (N.out.drewN q)
    have L := Lib.hid (L.out.drewN q)
    have HB := Lib.hid (bdrewN HB.out q)
    go_wp2_with fail
    refine (find_any _ _ _ l id _ L.out hn).mono ?_
    rintro e w2 ⟨rfl, hb⟩
    have N := Lib.hid (N.out.stays hb)
    have L := Lib.hid (L.out.stays hb)
    have HB := Lib.hid (bthen HB.out hb r)
    clear hb
    go_wp2_with fail
    refine (rfind_any _ _ _ l id _ L.out hn).mono ?_
    rintro e w' ⟨rfl, rfl⟩
    go_wp2_with fail
    refine (example_any _ N.out).mono ?_
    rintro e w3 ⟨rfl, hb⟩
    have N := Lib.hid (N.out.stays hb)
    have L := Lib.hid (L.out.stays hb)
    have HB := Lib.hid (bthen HB.out hb r)
    clear hb
    go_wp2
    go_ret
    exact ⟨rfl, HB.out⟩

set_option maxRecDepth 100000 in
set_option maxHeartbeats 4000000 in
theorem names_walk (m : Int) (s : ByteArray) (w : World) (_h1 : I64 m) (_h2 : s.size ≤ 9223372036854775807) (hN : NamesAt w) :
    Calls Tryd.prog 3 #[.int .i64 m, .string s] w fun e w' => e = .returned (.bool true) ∧ Below w.heap.size w w' := by
  have r := Nat.le_refl w.heap.size
  have N := Lib.hid hN
  have HB := Lib.hid (Below.refl w.heap.size w)
  clear hN
  by_cases hk : 0 ≤ m ∧ m < 8
  · obtain ⟨k0, k8⟩ := hk
    obtain ⟨k, rfl⟩ : ∃ k : Nat, m = (k : Int) := ⟨m.toNat, by omega⟩
    have hk8 : k < 8 := by omega
    have hne : ((nameOf k).toList != (nameOf k).toList) = false := by simp
    go_enter Tryd.func3, Tryd.ntmps3
    go_wp2_with fail
    refine (mname_yes k _ hk8 N.out).mono ?_
    rintro e w' ⟨rfl, rfl⟩
    go_wp2_with fail
    refine (names_any _).mono ?_
    rintro e w8 ⟨b, rfl, HNI, hb⟩
    have N := Lib.hid (N.out.stays hb)
    have HB := Lib.hid (bthen HB.out hb r)
    clear hb
    have cn := HNI.out k hk8
    go_wp2_with fail
    refine (par_any s _ N.out).mono ?_
    rintro e w' ⟨rfl, rfl⟩
    go_wp2_with fail
    refine (rpar_any s _).mono ?_
    rintro e w1 ⟨rfl, hb⟩
    have N := Lib.hid (N.out.stays hb)
    have HB := Lib.hid (bthen HB.out hb r)
    clear hb
    go_wp2_with fail
    refine (example_any _ N.out).mono ?_
    rintro e w2 ⟨rfl, hb⟩
    have N := Lib.hid (N.out.stays hb)
    have HB := Lib.hid (bthen HB.out hb r)
    clear hb
    go_wp2
    go_ret
    exact ⟨rfl, HB.out⟩
  · have hkn : knownB m = false := decide_eq_false hk
    have hor : m < 0 ∨ 8 ≤ m := by omega
    clear hk
    rcases hor with k0 | k0
    · go_enter Tryd.func3, Tryd.ntmps3
      go_wp2_with fail
      refine (mname_no m _ hkn).mono ?_
      rintro e w' ⟨rfl, rfl⟩
      go_wp2_with fail
      refine (par_any s _ N.out).mono ?_
      rintro e w' ⟨rfl, rfl⟩
      go_wp2_with fail
      refine (rpar_any s _).mono ?_
      rintro e w1 ⟨rfl, hb⟩
      have N := Lib.hid (N.out.stays hb)
      have HB := Lib.hid (bthen HB.out hb r)
      clear hb
      go_wp2_with fail
      refine (example_any _ N.out).mono ?_
      rintro e w2 ⟨rfl, hb⟩
      have N := Lib.hid (N.out.stays hb)
      have HB := Lib.hid (bthen HB.out hb r)
      clear hb
      go_wp2
      go_ret
      exact ⟨rfl, HB.out⟩
    · go_enter Tryd.func3, Tryd.ntmps3
      go_wp2_with fail
      refine (mname_no m _ hkn).mono ?_
      rintro e w' ⟨rfl, rfl⟩
      go_wp2_with fail
      refine (par_any s _ N.out).mono ?_
      rintro e w' ⟨rfl, rfl⟩
      go_wp2_with fail
      refine (rpar_any s _).mono ?_
      rintro e w1 ⟨rfl, hb⟩
      have N := Lib.hid (N.out.stays hb)
      have HB := Lib.hid (bthen HB.out hb r)
      clear hb
      go_wp2_with fail
      refine (example_any _ N.out).mono ?_
      rintro e w2 ⟨rfl, hb⟩
      have N := Lib.hid (N.out.stays hb)
      have HB := Lib.hid (bthen HB.out hb r)
      clear hb
      go_wp2
      go_ret
      exact ⟨rfl, HB.out⟩

set_option maxRecDepth 100000 in
set_option maxHeartbeats 4000000 in
theorem selects_walk (A : Option Addr) (n c : Nat) (l : List Route) (m : Int) (w : World) (hl : SAt routeC w A n l) (_hs : SizedR l) (_h1 : I64 m) (hN : NamesAt w) :
    Calls Tryd.prog 4 #[.slice A n c, .int .i64 m] w fun e w' => e = .returned (.bool true) ∧ Below w.heap.size w w' := by
  have r := Nat.le_refl w.heap.size
  have N := Lib.hid hN
  have HB := Lib.hid (Below.refl w.heap.size w)
  clear hN
  have L := Lib.hid hl
  clear hl
  by_cases h100 : (100 : Int) < (n : Int)
  · go_enter Tryd.func4, Tryd.ntmps4
    go_wp2_with fail
    refine (example_any _ N.out).mono ?_
    rintro e w1 ⟨rfl, hb⟩
    have N := Lib.hid (N.out.stays hb)
    have L := Lib.hid (L.out.stays hb)
    have HB := Lib.hid (bthen HB.out hb r)
    clear hb
    go_wp2
    go_ret
    exact ⟨rfl, HB.out⟩
  · have hn : n ≤ 1000 := by omega
    have hlen := with_len l m n
    have h1 := fun A c w hx => withm_any A n c l m w hx hn
    have h2 := fun A c w hx => rwithm_any A n c l m w hx hn
    obtain ⟨D, hD⟩ : ∃ D, D = withTo l m n := ⟨_, rfl⟩
    rw [← hD] at h1 h2 hlen
    clear hD
    go_enter Tryd.func4, Tryd.ntmps4
    go_wp2_with fail
    refine (modes_any _ _ _ l _ L.out hn).mono ?_
    rintro e w1 ⟨rfl, hb⟩
    have N := Lib.hid (N.out.stays hb)
    have L := Lib.hid (L.out.stays hb)
    have HB := Lib.hid (bthen HB.out hb r)
    clear hb
    go_wp2_with fail
    refine (rmodes_any _ _ _ l _ L.out hn).mono ?_
    rintro e w' ⟨rfl, rfl⟩
    go_wp2_with fail
    refine (h1 _ _ _ L.out).mono ?_
    rintro e w2 ⟨AP, cP, rfl, hi, hu, hc, hb, _⟩
    have N := Lib.hid (N.out.stays hb)
    have L := Lib.hid (L.out.stays hb)
    have HB := Lib.hid (bthen HB.out hb r)
    clear hb
    have P := Lib.hid hi
    clear hi hu hc
    go_wp2_with fail
    refine (h2 _ _ _ L.out).mono ?_
    rintro e w3 ⟨AQ, cQ, rfl, hi, hu, hc, hb, _⟩
    have N := Lib.hid (N.out.stays hb)
    have L := Lib.hid (L.out.stays hb)
    have P := Lib.hid (P.out.stays hb)
    have HB := Lib.hid (bthen HB.out hb r)
    clear hb
    have Q := Lib.hid hi
    clear hi hu hc
    go_wp2_with fail
    refine (same_self _ _ _ _ _ _ D _ P.out Q.out (by omega)).mono ?_
    rintro e w' ⟨rfl, q, rfl⟩
    have N := Lib.hid (N.out.drewN q)
    have L := Lib.hid (L.out.drewN q)
    have P := Lib.hid (P.out.drewN q)
    have Q := Lib.hid (Q.out.drewN q)
    have HB := Lib.hid (bdrewN HB.out q)
    go_wp2_with fail
    refine (example_any _ N.out).mono ?_
    rintro e w4 ⟨rfl, hb⟩
    have N := Lib.hid (N.out.stays hb)
    have L := Lib.hid (L.out.stays hb)
    have P := Lib.hid (P.out.stays hb)
    have Q := Lib.hid (Q.out.stays hb)
    have HB := Lib.hid (bthen HB.out hb r)
    clear hb
    go_wp2
    go_ret
    exact ⟨rfl, HB.out⟩

set_option maxRecDepth 100000 in
set_option maxHeartbeats 4000000 in
theorem texts_walk (m : Int) (s : ByteArray) (w : World) (_h1 : I64 m) (_h2 : s.size ≤ 9223372036854775807) (hN : NamesAt w) :
    Calls Tryd.prog 5 #[.int .i64 m, .string s] w fun e w' => e = .returned (.bool true) ∧ Below w.heap.size w w' := by
  have r := Nat.le_refl w.heap.size
  have N := Lib.hid hN
  have HB := Lib.hid (Below.refl w.heap.size w)
  clear hN
  by_cases h100 : (100 : Int) < (s.size : Int)
  · go_enter Tryd.func5, Tryd.ntmps5
    go_wp2_with fail
    refine (example_any _ N.out).mono ?_
    rintro e w1 ⟨rfl, hb⟩
    have N := Lib.hid (N.out.stays hb)
    have HB := Lib.hid (bthen HB.out hb r)
    clear hb
    go_wp2
    go_ret
    exact ⟨rfl, HB.out⟩
  · have hpr := parse_ref s
    have hp := fun w hN => parse_any s w (by omega) hN
    rw [hpr.1, hpr.2] at hp
    clear hpr
    go_enter Tryd.func5, Tryd.ntmps5
    go_wp2_with fail
    refine (fmt_any m _ N.out).mono ?_
    rintro e w1 ⟨rfl, hb⟩
    have N := Lib.hid (N.out.stays hb)
    have HB := Lib.hid (bthen HB.out hb r)
    clear hb
    go_wp2_with fail
    refine (rfmt_any m _).mono ?_
    rintro e w2 ⟨rfl, hb⟩
    have N := Lib.hid (N.out.stays hb)
    have HB := Lib.hid (bthen HB.out hb r)
    clear hb
    go_wp2_with fail
    refine (hp _ N.out).mono ?_
    rintro e w' ⟨rfl, rfl⟩
    go_wp2_with fail
    refine (rparse_any s _).mono ?_
    rintro e w3 ⟨rfl, hb⟩
    have N := Lib.hid (N.out.stays hb)
    have HB := Lib.hid (bthen HB.out hb r)
    clear hb
    go_wp2_with fail
    refine (example_any _ N.out).mono ?_
    rintro e w4 ⟨rfl, hb⟩
    have N := Lib.hid (N.out.stays hb)
    have HB := Lib.hid (bthen HB.out hb r)
    clear hb
    go_wp2
    go_ret
    exact ⟨rfl, HB.out⟩
end Go.Proofs.YtokjkllfkjiaiaaDoor
