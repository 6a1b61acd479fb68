/-
  The laws ShortestDistances, ShortestPaths, ShortestComponents: the walks. Printed by gen/sp13.py.
-/
import Derived.Test.YtabhinmodnmllaaSqN
namespace Go.Proofs.Ytabhinmodnmllaa
open Go.RowKit

/-- too large for the reference, but not refused -/
def largeB (n : Int) (m : Nat) : Bool := decide ((5000 : Int) < (m : Int) ∨ ((60 : Int) < (m : Int) ∧ (m : Int) ≤ 4096) ∨ (12 < n ∧ n ≤ 64))
theorem large_no {n : Int} {m : Nat} (h : largeB n m = false) : m ≤ 5000 ∧ (m ≤ 500 ∨ 4096 < m) := by
  have := of_decide_eq_false h
  omega

set_option maxHeartbeats 1000000 in
theorem large_any (n : Int) (A : Option Addr) (m c : Nat) (w : World) : Calls Try.prog 9 #[.int .i64 n, .slice A m c] w fun e w' => e = .returned (.bool (largeB n m)) ∧ w = w' := by
  have m0 : (0 : Int) ≤ (m : Int) := by omega
  by_cases h1 : (5000 : Int) < (m : Int)
  · have hr : largeB n m = true := decide_eq_true (.inl h1)
    have h1' : 5000 < m := by omega
    rw [hr]
    clear hr
    go_enter Try.func9, Try.ntmps9
    go_wp2
    go_ret
    exact ⟨rfl, rfl⟩
  · have h1' : (m : Int) ≤ 5000 := by omega
    have h1'' : m ≤ 5000 := by omega
    have h1c : ¬ 5000 < m := by omega
    by_cases h2 : (60 : Int) < (m : Int)
    · have h2' : 60 < m := by omega
      by_cases h3 : (m : Int) ≤ 4096
      · have hr : largeB n m = true := decide_eq_true (.inr (.inl ⟨h2, h3⟩))
        have h3' : m ≤ 4096 := by omega
        rw [hr]
        clear hr
        go_enter Try.func9, Try.ntmps9
        go_wp2
        go_ret
        exact ⟨rfl, rfl⟩
      · have h3' : ¬ m ≤ 4096 := by omega
        have h3'' : (4096 : Int) < (m : Int) := by omega
        have h3c : 4096 < m := by omega
        by_cases h4 : 12 < n
        · by_cases h5 : n ≤ 64
          · have hr : largeB n m = true := decide_eq_true (.inr (.inr ⟨h4, h5⟩))
            rw [hr]
            clear hr
            go_enter Try.func9, Try.ntmps9
            go_wp2
            go_ret
            exact ⟨rfl, rfl⟩
          · have hr : largeB n m = false := decide_eq_false (by omega)
            rw [hr]
            clear hr
            go_enter Try.func9, Try.ntmps9
            go_wp2
            go_ret
            exact ⟨rfl, rfl⟩
        · have hr : largeB n m = false := decide_eq_false (by omega)
          rw [hr]
          clear hr
          go_enter Try.func9, Try.ntmps9
          go_wp2
          go_ret
          exact ⟨rfl, rfl⟩
    · have h2' : ¬ 60 < m := by omega
      have h2'' : (m : Int) ≤ 60 := by omega
      have h2c : m ≤ 60 := by omega
      by_cases h4 : 12 < n
      · by_cases h5 : n ≤ 64
        · have hr : largeB n m = true := decide_eq_true (.inr (.inr ⟨h4, h5⟩))
          rw [hr]
          clear hr
          go_enter Try.func9, Try.ntmps9
          go_wp2
          go_ret
          exact ⟨rfl, rfl⟩
        · have hr : largeB n m = false := decide_eq_false (by omega)
          rw [hr]
          clear hr
          go_enter Try.func9, Try.ntmps9
          go_wp2
          go_ret
          exact ⟨rfl, rfl⟩
      · have hr : largeB n m = false := decide_eq_false (by omega)
        rw [hr]
        clear hr
        go_enter Try.func9, Try.ntmps9
        go_wp2
        go_ret
        exact ⟨rfl, rfl⟩

/-- the row that Distances gives -/
def outD (l : List Edge) (n s : Int) : List Int := if checkN n l [s] = 0 then distL l n.toNat s.toNat else []
theorem DistR.val {l : List Edge} {n s : Int} {w w' : World} {e : Ending} (h : DistR l n s w e w') : ∃ A c, e = .returned (.tuple #[.slice A (outD l n s).length c, .int .i64 (checkN n l [s])]) ∧ IntsAt w' A (outD l n s).length (outD l n s) := by
  by_cases h0 : checkN n l [s] = 0
  · obtain ⟨A, c, h1, h2⟩ := h.2.1 h0
    have ho : outD l n s = distL l n.toNat s.toNat := if_pos h0
    rw [ho, distL_len, h0]
    exact ⟨A, c, h1, h2⟩
  · have ho : outD l n s = [] := if_neg h0
    rw [ho]
    exact ⟨none, 0, h.1 h0, IntsAt.nil _ _⟩
theorem outD_len (l : List Edge) (n s : Int) : (outD l n s).length ≤ 64 := by
  unfold outD
  split
  · rename_i h
    have := checkI_good (checkN_good h).1
    rw [distL_len]
    omega
  · simp
/-- what Path gives -/
def outP (l : List Edge) (n a b : Int) : List Int := if checkN n l [a, b] = 0 then (if gi (costsOf l n.toNat b.toNat) a.toNat < 0 then [] else pathL l n.toNat a.toNat b.toNat) else []
def lenP (l : List Edge) (n a b : Int) : Int := if checkN n l [a, b] = 0 then (if gi (costsOf l n.toNat b.toNat) a.toNat < 0 then 0 else gi (costsOf l n.toNat b.toNat) a.toNat / 128) else 0
def errP (l : List Edge) (n a b : Int) : Int := if checkN n l [a, b] = 0 then (if gi (costsOf l n.toNat b.toNat) a.toNat < 0 then 7 else 0) else checkN n l [a, b]
theorem PathR.val {l : List Edge} {n a b : Int} {w w' : World} {e : Ending} (h : PathR l n a b w e w') : ∃ A c, e = .returned (.tuple #[.slice A (outP l n a b).length c, .int .i64 (lenP l n a b), .int .i64 (errP l n a b)]) ∧ IntsAt w' A (outP l n a b).length (outP l n a b) := by
  unfold outP lenP errP
  by_cases h0 : checkN n l [a, b] = 0
  · rw [if_pos h0, if_pos h0, if_pos h0]
    by_cases h1 : gi (costsOf l n.toNat b.toNat) a.toNat < 0
    · rw [if_pos h1, if_pos h1, if_pos h1]
      exact ⟨none, 0, h.2.1 h0 h1, IntsAt.nil _ _⟩
    · rw [if_neg h1, if_neg h1, if_neg h1]
      exact h.2.2.1 h0 h1
  · rw [if_neg h0, if_neg h0, if_neg h0]
    exact ⟨none, 0, h.1 h0, IntsAt.nil _ _⟩
theorem outP_len (l : List Edge) (n a b : Int) : (outP l n a b).length ≤ 65 := by
  unfold outP
  split
  · rename_i h
    split
    · simp
    · rename_i h1
      have hg := checkN_good h
      have hc := checkI_good hg.1
      have ha := hg.2 a List.mem_cons_self
      have hb := hg.2 b (List.mem_cons_of_mem _ List.mem_cons_self)
      obtain ⟨E, h2, h3, _⟩ := path_facts (n := n.toNat) (a := a.toNat) (b := b.toNat) (by omega) (by omega) (by omega) (fun y hy => by have := hc.2.2.2 y hy; rwa [← Int.toNat_of_nonneg hc.1] at this) h1
      unfold pathL
      rw [pathP_len]
      omega
  · simp
/-- what Components gives -/
def outC (l : List Edge) (n : Int) : List Int := if checkI n l = 0 then compL l n.toNat else []
theorem compL_len (l : List Edge) (n : Nat) : (compL l n).length = n := numTo_len _ _
theorem CompR.val {l : List Edge} {n : Int} {w w' : World} {e : Ending} (h : CompR l n w e w') : ∃ A c, e = .returned (.tuple #[.slice A (outC l n).length c, .int .i64 (checkI n l)]) ∧ IntsAt w' A (outC l n).length (outC l n) := by
  by_cases h0 : checkI n l = 0
  · obtain ⟨A, c, h1, h2⟩ := h.2.1 h0
    have ho : outC l n = compL l n.toNat := if_pos h0
    rw [ho, compL_len, h0]
    exact ⟨A, c, h1, h2⟩
  · have ho : outC l n = [] := if_neg h0
    rw [ho]
    exact ⟨none, 0, h.1 h0, IntsAt.nil _ _⟩
theorem outC_len (l : List Edge) (n : Int) : (outC l n).length ≤ 64 := by
  unfold outC
  split
  · rename_i h
    have := checkI_good h
    rw [compL_len]
    omega
  · simp

set_option maxRecDepth 100000 in
set_option maxHeartbeats 2000000 in
theorem distances_walk (n : Int) (A : Option Addr) (m c : Nat) (l : List Edge) (s : Int) (w : World) (hx : SAt edgeC w A m l) (_ : True) : Calls Try.prog 3 #[.int .i64 n, .slice A m c, .int .i64 s] w fun e w' => e = .returned (.bool true) ∧ Below w.heap.size w w' := by
  have HX := Lib.hid hx
  have HM := Lib.hid hx.1
  clear hx
  cases hlg : largeB n m
  · obtain ⟨hm1, hm2⟩ := large_no hlg
    have HLG := Lib.hid hlg
    clear hlg
    go_enter Try.func3, Try.ntmps3
    go_wp2_with fail
    refine (large_any n A m c w).mono ?_
    rintro e w0 ⟨rfl, rfl⟩
    rw [HLG.out]
    go_wp2_with fail
    refine (to_any A m c l w HX.out (by omega)).mono ?_
    rintro e w1 ⟨v1, rfl, ho1, hb1⟩
    obtain ⟨A1, c1, rfl, _⟩ := ownsRow_slice ho1
    have HL1 := Lib.hid (SAt.own ho1 (by decide))
    rw [HM.out] at HL1
    rw [HM.out]
    have HX1 := Lib.hid (HX.out.stays hb1)
    have HB1 := Lib.hid hb1
    clear ho1 hb1
    go_wp2_with fail
    refine (dist_any A1 n s m c1 l w1 HL1.out hm2).mono ?_
    rintro e w2 h2
    replace h2 := h2.toR (by rw [HM.out]; exact hm2)
    obtain ⟨A2, c2, rfl, h3⟩ := h2.val
    have HLN := Lib.hid (outD_len l n s)
    have hb2 : Below w1.heap.size w1 w2 := h2.2.2
    have HI2 := Lib.hid h3
    have HX2 := Lib.hid (HX1.out.stays hb2)
    have HB2 := Lib.hid (bthen HB1.out hb2 (Nat.le_refl _))
    clear h2 h3 hb2
    go_wp2_with fail
    refine (rdist_any A n s m c l w2 HX2.out hm2).mono ?_
    rintro e w3 h4
    obtain ⟨A3, c3, rfl, h5⟩ := h4.val
    have hb3 : Below w2.heap.size w2 w3 := h4.2.2
    have HI3 := Lib.hid h5
    have HI2 := Lib.hid (HI2.out.stays hb3)
    have HB3 := Lib.hid (bthen HB2.out hb3 (Nat.le_refl _))
    clear h4 h5 hb3
    obtain ⟨xs, hxs⟩ : ∃ xs, xs = outD l n s := ⟨_, rfl⟩
    rw [← hxs] at HI2 HI3 HLN ⊢
    clear hxs
    obtain ⟨k, hk⟩ : ∃ k, k = xs.length := ⟨_, rfl⟩
    rw [← hk] at HI2 HI3 HLN ⊢
    clear hk
    have hln := HLN.out
    go_wp2_with fail
    refine (same_self A2 A3 k k c2 c3 xs w3 HI2.out HI3.out (by omega)).mono ?_
    rintro e w4 ⟨rfl, q, rfl⟩
    go_wp2_with fail
    refine (ex_any _).mono ?_
    rintro e w5 ⟨rfl, hb5⟩
    have HB5 := Lib.hid (bthen (bdrewN HB3.out q) hb5 (Nat.le_refl _))
    clear hb5
    go_wp2
    go_ret
    exact ⟨rfl, HB5.out⟩
  · have HLG := Lib.hid hlg
    clear hlg
    go_enter Try.func3, Try.ntmps3
    go_wp2_with fail
    refine (large_any n A m c w).mono ?_
    rintro e w0 ⟨rfl, rfl⟩
    rw [HLG.out]
    go_wp2_with fail
    refine (ex_any _).mono ?_
    rintro e w5 ⟨rfl, hb5⟩
    have HB5 := Lib.hid hb5
    clear hb5
    go_wp2
    go_ret
    exact ⟨rfl, HB5.out⟩

set_option maxRecDepth 100000 in
set_option maxHeartbeats 2000000 in
theorem components_walk (n : Int) (A : Option Addr) (m c : Nat) (l : List Edge) (w : World) (hx : SAt edgeC w A m l) (_ : True) : Calls Try.prog 5 #[.int .i64 n, .slice A m c] w fun e w' => e = .returned (.bool true) ∧ Below w.heap.size w w' := by
  have HX := Lib.hid hx
  have HM := Lib.hid hx.1
  clear hx
  cases hlg : largeB n m
  · obtain ⟨hm1, hm2⟩ := large_no hlg
    have HLG := Lib.hid hlg
    clear hlg
    go_enter Try.func5, Try.ntmps5
    go_wp2_with fail
    refine (large_any n A m c w).mono ?_
    rintro e w0 ⟨rfl, rfl⟩
    rw [HLG.out]
    go_wp2_with fail
    refine (to_any A m c l w HX.out (by omega)).mono ?_
    rintro e w1 ⟨v1, rfl, ho1, hb1⟩
    obtain ⟨A1, c1, rfl, _⟩ := ownsRow_slice ho1
    have HL1 := Lib.hid (SAt.own ho1 (by decide))
    rw [HM.out] at HL1
    rw [HM.out]
    have HX1 := Lib.hid (HX.out.stays hb1)
    have HB1 := Lib.hid hb1
    clear ho1 hb1
    go_wp2_with fail
    refine (comp_any A1 n m c1 l w1 HL1.out).mono ?_
    rintro e w2 h2
    
    obtain ⟨A2, c2, rfl, h3⟩ := h2.val
    have HLN := Lib.hid (outC_len l n)
    have hb2 : Below w1.heap.size w1 w2 := h2.2.2
    have HI2 := Lib.hid h3
    have HX2 := Lib.hid (HX1.out.stays hb2)
    have HB2 := Lib.hid (bthen HB1.out hb2 (Nat.le_refl _))
    clear h2 h3 hb2
    go_wp2_with fail
    refine (rcomp_any A n m c l w2 HX2.out).mono ?_
    rintro e w3 h4
    obtain ⟨A3, c3, rfl, h5⟩ := h4.val
    have hb3 : Below w2.heap.size w2 w3 := h4.2.2
    have HI3 := Lib.hid h5
    have HI2 := Lib.hid (HI2.out.stays hb3)
    have HB3 := Lib.hid (bthen HB2.out hb3 (Nat.le_refl _))
    clear h4 h5 hb3
    obtain ⟨xs, hxs⟩ : ∃ xs, xs = outC l n := ⟨_, rfl⟩
    rw [← hxs] at HI2 HI3 HLN ⊢
    clear hxs
    obtain ⟨k, hk⟩ : ∃ k, k = xs.length := ⟨_, rfl⟩
    rw [← hk] at HI2 HI3 HLN ⊢
    clear hk
    have hln := HLN.out
    go_wp2_with fail
    refine (same_self A2 A3 k k c2 c3 xs w3 HI2.out HI3.out (by omega)).mono ?_
    rintro e w4 ⟨rfl, q, rfl⟩
    go_wp2_with fail
    refine (ex_any _).mono ?_
    rintro e w5 ⟨rfl, hb5⟩
    have HB5 := Lib.hid (bthen (bdrewN HB3.out q) hb5 (Nat.le_refl _))
    clear hb5
    go_wp2
    go_ret
    exact ⟨rfl, HB5.out⟩
  · have HLG := Lib.hid hlg
    clear hlg
    go_enter Try.func5, Try.ntmps5
    go_wp2_with fail
    refine (large_any n A m c w).mono ?_
    rintro e w0 ⟨rfl, rfl⟩
    rw [HLG.out]
    go_wp2_with fail
    refine (ex_any _).mono ?_
    rintro e w5 ⟨rfl, hb5⟩
    have HB5 := Lib.hid hb5
    clear hb5
    go_wp2
    go_ret
    exact ⟨rfl, HB5.out⟩

set_option maxRecDepth 100000 in
set_option maxHeartbeats 2000000 in
theorem paths_walk (n : Int) (A : Option Addr) (m c : Nat) (l : List Edge) (ends : Int) (w : World) (hx : SAt edgeC w A m l) (_ : True) : Calls Try.prog 4 #[.int .i64 n, .slice A m c, .int .i64 ends] w fun e w' => e = .returned (.bool true) ∧ Below w.heap.size w w' := by
  have HX := Lib.hid hx
  have HM := Lib.hid hx.1
  clear hx
  cases hlg : largeB n m
  · obtain ⟨hm1, hm2⟩ := large_no hlg
    have HLG := Lib.hid hlg
    clear hlg
    go_enter Try.func4, Try.ntmps4
    go_wp2_with fail
    refine (large_any n A m c w).mono ?_
    rintro e w0 ⟨rfl, rfl⟩
    rw [HLG.out]
    go_wp2_with fail
    obtain ⟨a, ha⟩ : ∃ a, a = RowKit.wrap64 (ends.tdiv 100) := ⟨_, rfl⟩
    obtain ⟨b, hb⟩ : ∃ b, b = ends.tmod 100 := ⟨_, rfl⟩
    rw [← ha, ← hb]
    clear ha hb
    refine (to_any A m c l w HX.out (by omega)).mono ?_
    rintro e w1 ⟨v1, rfl, ho1, hb1⟩
    obtain ⟨A1, c1, rfl, _⟩ := ownsRow_slice ho1
    have HL1 := Lib.hid (SAt.own ho1 (by decide))
    rw [HM.out] at HL1
    rw [HM.out]
    have HX1 := Lib.hid (HX.out.stays hb1)
    have HB1 := Lib.hid hb1
    clear ho1 hb1
    go_wp2_with fail
    refine (path_any A1 n a b m c1 l w1 HL1.out hm2).mono ?_
    rintro e w2 h2
    
    obtain ⟨A2, c2, rfl, h3⟩ := h2.val
    have HLN := Lib.hid (outP_len l n a b)
    have hb2 : Below w1.heap.size w1 w2 := h2.2.2.2
    have HI2 := Lib.hid h3
    have HX2 := Lib.hid (HX1.out.stays hb2)
    have HB2 := Lib.hid (bthen HB1.out hb2 (Nat.le_refl _))
    clear h2 h3 hb2
    go_wp2_with fail
    refine (rpath_any A n a b m c l w2 HX2.out hm2).mono ?_
    rintro e w3 h4
    obtain ⟨A3, c3, rfl, h5⟩ := h4.val
    have hb3 : Below w2.heap.size w2 w3 := h4.2.2.2
    have HI3 := Lib.hid h5
    have HI2 := Lib.hid (HI2.out.stays hb3)
    have HB3 := Lib.hid (bthen HB2.out hb3 (Nat.le_refl _))
    clear h4 h5 hb3
    obtain ⟨xs, hxs⟩ : ∃ xs, xs = outP l n a b := ⟨_, rfl⟩
    rw [← hxs] at HI2 HI3 HLN ⊢
    clear hxs
    obtain ⟨k, hk⟩ : ∃ k, k = xs.length := ⟨_, rfl⟩
    rw [← hk] at HI2 HI3 HLN ⊢
    clear hk
    have hln := HLN.out
    go_wp2_with fail
    refine (same_self A2 A3 k k c2 c3 xs w3 HI2.out HI3.out (by omega)).mono ?_
    rintro e w4 ⟨rfl, q, rfl⟩
    go_wp2_with fail
    refine (ex_any _).mono ?_
    rintro e w5 ⟨rfl, hb5⟩
    have HB5 := Lib.hid (bthen (bdrewN HB3.out q) hb5 (Nat.le_refl _))
    clear hb5
    go_wp2
    go_ret
    exact ⟨rfl, HB5.out⟩
  · have HLG := Lib.hid hlg
    clear hlg
    go_enter Try.func4, Try.ntmps4
    go_wp2_with fail
    refine (large_any n A m c w).mono ?_
    rintro e w0 ⟨rfl, rfl⟩
    rw [HLG.out]
    go_wp2_with fail
    refine (ex_any _).mono ?_
    rintro e w5 ⟨rfl, hb5⟩
    have HB5 := Lib.hid hb5
    clear hb5
    go_wp2
    go_ret
    exact ⟨rfl, HB5.out⟩
end Go.Proofs.Ytabhinmodnmllaa
