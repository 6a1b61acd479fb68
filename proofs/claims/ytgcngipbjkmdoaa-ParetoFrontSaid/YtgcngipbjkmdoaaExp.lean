/-
  The examples of the chapter.
-/
import Derived.Test.YtgcngipbjkmdoaaRest
namespace Go.Proofs.Ytgcngipbjkmdoaa
open Go.RowKit
open Vec (V vi leV eqV domV ltV cmpV covV putV frontV mergeV withinV)

/-- a slice literal of vectors -/
theorem own_lit (w : World) (base : Nat) (hb : base ≤ w.heap.size) (xs : List V) (n : Nat) (cs : Array Value) (hn : xs.length = n) (hc : cs.toList = vcs xs) (h63 : n ≤ maxLen) (t : TypeId) :
    (w.alloc (.cells cs t)).ownsRow base t 4 (.slice (some ⟨w.heap.size, 0, none⟩) n n) n (vcs xs) := by
  have hl := vcs_len xs
  have hs : cs.size = n * 4 := by rw [← Array.length_toList, hc, hl, hn]
  exact ⟨by rw [hl, hn], .inr ⟨w.heap.size, n, cs, rfl, hb, by show (w.heap.push _)[w.heap.size]? = _; simp, Nat.le_refl _, h63, hs, by rw [hc, List.take_of_length_le (by omega)]⟩⟩

def exL : List V := [(2, 1, 0, 0), (1, 2, 0, 0), (2, 2, 0, 0), (1, 2, 0, 0)]
def exF : List V := [(1, 2, 0, 0), (2, 1, 0, 0)]
def exM : List V := [(1, 1, 0, 0)]
theorem ex_front : frontV exL = exF := by decide +kernel
theorem ex_put : putV (frontV exF) (1, 1, 0, 0) = exM := by decide +kernel
theorem ex_put2 : putV (frontV exM) (1, 1, 0, 0) = exM := by decide +kernel
theorem ex_cov : covV exF (1, 1, 0, 0) = false := by decide +kernel
theorem ex_cov2 : covV exM (1, 1, 0, 0) = true := by decide +kernel
theorem ex_dom : domV (1, 2, 3, 4) (1, 2, 3, 5) = true := by decide +kernel
theorem ex_dom2 : domV (1, 2, 3, 4) (1, 2, 3, 4) = false := by decide +kernel

abbrev exA : Value := .agg #[.int .i64 1, .int .i64 2, .int .i64 3, .int .i64 4]
theorem ex_frontC (A : Option Addr) (c : Nat) (w : World) (hx : VecsAt w A 4 exL) : Calls Try.prog 21 #[.slice A 4 c] w fun e w' => MadeVecs w.heap.size w 23 exF e w' := by
  have := front_any A 4 c exL w hx (by omega)
  rw [ex_front] at this
  exact this
theorem ex_ins1 (A : Option Addr) (c : Nat) (w : World) (hx : VecsAt w A 2 exF) : Calls Try.prog 15 #[.slice A 2 c, .agg #[.int .i64 1, .int .i64 1, .int .i64 0, .int .i64 0]] w fun e w' => MadeIns w.heap.size w 23 exM true e w' := by
  have := insert_any A 2 c exF (1, 1, 0, 0) w hx (by omega)
  rw [ex_put, ex_cov] at this
  exact this
theorem ex_ins2 (A : Option Addr) (c : Nat) (w : World) (hx : VecsAt w A 1 exM) : Calls Try.prog 15 #[.slice A 1 c, .agg #[.int .i64 1, .int .i64 1, .int .i64 0, .int .i64 0]] w fun e w' => MadeIns w.heap.size w 23 exM false e w' := by
  have := insert_any A 1 c exM (1, 1, 0, 0) w hx (by omega)
  rw [ex_put2, ex_cov2] at this
  exact this
theorem ex_domC (w : World) : Calls Try.prog 9 #[.agg #[.int .i64 1, .int .i64 2, .int .i64 3, .int .i64 4], .agg #[.int .i64 1, .int .i64 2, .int .i64 3, .int .i64 5]] w fun e w' => e = .returned (.bool true) ∧ Below w.heap.size w w' := by
  have := dom_any (1, 2, 3, 4) (1, 2, 3, 5) w
  rw [ex_dom] at this
  exact this
theorem ex_domD (w : World) : Calls Try.prog 9 #[.agg #[.int .i64 1, .int .i64 2, .int .i64 3, .int .i64 4], .agg #[.int .i64 1, .int .i64 2, .int .i64 3, .int .i64 4]] w fun e w' => e = .returned (.bool false) ∧ Below w.heap.size w w' := by
  have := dom_any (1, 2, 3, 4) (1, 2, 3, 4) w
  rw [ex_dom2] at this
  exact this
theorem same_self (A B : Option Addr) (n c d : Nat) (xs : List V) (w : World) (hx : VecsAt w A n xs) (hy : VecsAt w B n xs) (hn : n ≤ 1000) :
    Calls Try.prog 18 #[.slice A n c, .slice B n d] w fun e w' => e = .returned (.bool true) ∧ ∃ q, w' = w.drewN q := by
  have := rsame_any A B n n c d xs xs w hx hy (by omega) (by omega)
  rw [show Vec.sameV xs xs = true by simp [Vec.sameV]] at this
  exact this

set_option maxHeartbeats 2000000 in
theorem example_any (w : World) : Calls Try.prog 13 #[] w fun e w' => e = .returned (.bool true) ∧ Below w.heap.size w w' := by
  have r := Nat.le_refl w.heap.size
  obtain ⟨W2, hW2⟩ : ∃ W2, W2 = (w.alloc (.cells #[.int .i64 (vi ((1, 2, 3, 4)) 0), .int .i64 (vi ((1, 2, 3, 4)) 1), .int .i64 (vi ((1, 2, 3, 4)) 2), .int .i64 (vi ((1, 2, 3, 4)) 3)] 23)).alloc (.cells #[.int .i64 (vi ((1, 2, 3, 5)) 0), .int .i64 (vi ((1, 2, 3, 5)) 1), .int .i64 (vi ((1, 2, 3, 5)) 2), .int .i64 (vi ((1, 2, 3, 5)) 3)] 23) := ⟨_, rfl⟩
  have hA : VBox W2 w.heap.size (1, 2, 3, 4) := by rw [hW2]; exact (VBox.new w 23 (1, 2, 3, 4)).alloc (by simp) _
  have hB : VBox W2 (w.heap.size + 1) (1, 2, 3, 5) := by
    have := VBox.new (w.alloc (.cells #[.int .i64 (vi ((1, 2, 3, 4)) 0), .int .i64 (vi ((1, 2, 3, 4)) 1), .int .i64 (vi ((1, 2, 3, 4)) 2), .int .i64 (vi ((1, 2, 3, 4)) 3)] 23)) 23 (1, 2, 3, 5)
    rw [World.size_alloc] at this
    rw [hW2]
    exact this
  have hb2 : Below w.heap.size w W2 := by rw [hW2]; exact balloc (balloc (Below.refl _ w) _ r) _ r
  have hs2 : W2.heap.size = w.heap.size + 1 + 1 := by rw [hW2]; simp
  have HA := Lib.hid hA
  have HB := Lib.hid hB
  have H2 := Lib.hid hW2
  clear hA hB hW2
  go_enter Try.func13, Try.ntmps13
  go_wp2_with fail
  rw [show (w.alloc (.cells #[.int .i64 1, .int .i64 2, .int .i64 3, .int .i64 4] 23)).alloc (.cells #[.int .i64 1, .int .i64 2, .int .i64 3, .int .i64 5] 23) = W2 from H2.out.symm]
  have hlit := own_lit W2 w.heap.size hb2.size exL 4 #[.int .i64 2, .int .i64 1, .int .i64 0, .int .i64 0, .int .i64 1, .int .i64 2, .int .i64 0, .int .i64 0, .int .i64 2, .int .i64 2, .int .i64 0, .int .i64 0, .int .i64 1, .int .i64 2, .int .i64 0, .int .i64 0] rfl rfl (by unfold maxLen; omega) 23
  rw [hs2] at hlit
  refine (ex_frontC _ _ _ (VecsAt.own hlit)).mono ?_
  rintro e w3 ⟨v3, rfl, hr3, hb3⟩
  have hb3' : Below W2.heap.size W2 w3 := bthen (balloc (Below.refl _ W2) _ (Nat.le_refl _)) hb3 (Nat.le_refl _)
  rw [show exF.length = 2 from rfl] at hr3
  obtain ⟨A3, c3, rfl, hc3⟩ := ownsRow_slice hr3
  clear hlit hb3
  go_wp2_with fail
  refine (ex_ins1 _ _ _ (VecsAt.own hr3)).mono ?_
  rintro e w4 ⟨v4, rfl, hr4, hb4⟩
  rw [show exM.length = 1 from rfl] at hr4
  obtain ⟨A4, c4, rfl, hc4⟩ := ownsRow_slice hr4
  have HR3 := Lib.hid (ownsRow_stays hr3 hb4)
  have hb4' : Below W2.heap.size W2 w4 := bthen hb3' hb4 (Nat.le_refl _)
  clear hr3 hb3' hb4
  go_wp2_with fail
  refine (ex_ins2 _ _ _ (VecsAt.own hr4)).mono ?_
  rintro e w5 ⟨v5, rfl, hr5, hb5⟩
  rw [show exM.length = 1 from rfl] at hr5
  obtain ⟨A5, c5, rfl, hc5⟩ := ownsRow_slice hr5
  have HR4 := Lib.hid (ownsRow_stays hr4 hb5)
  have HR3' := Lib.hid (ownsRow_stays HR3.out hb5)
  have HR5 := Lib.hid hr5
  have hb5' : Below W2.heap.size W2 w5 := bthen hb4' hb5 (Nat.le_refl _)
  clear hr4 hb5 hb4' HR3 hr5
  obtain ⟨W6, hW6⟩ : ∃ W6, W6 = w5.alloc (.cells #[.int .i64 1, .int .i64 1, .int .i64 0, .int .i64 0] 26) := ⟨_, rfl⟩
  have hb56 : Below w5.heap.size w5 W6 := by rw [hW6]; exact balloc (Below.refl _ w5) _ (Nat.le_refl _)
  have RL := Lib.hid (VecsAt.own (ownsRow_stays HR3'.out hb56))
  have RM := Lib.hid (VecsAt.own (ownsRow_stays HR4.out hb56))
  have RK := Lib.hid (VecsAt.own (ownsRow_stays HR5.out hb56))
  have RO := Lib.hid (VecsAt.own (own_lit w5 w5.heap.size (Nat.le_refl _) exM 1 #[.int .i64 1, .int .i64 1, .int .i64 0, .int .i64 0] rfl rfl (by unfold maxLen; omega) 26))
  rw [← hW6] at RO
  have hb6 : Below W2.heap.size W2 W6 := bthen hb5' hb56 (Nat.le_refl _)
  have q0 : w.heap.size < W2.heap.size := by omega
  have q1 : w.heap.size + 1 < W2.heap.size := by omega
  have KA : Hid (∀ u, Below W2.heap.size W2 u → u.cell? ⟨w.heap.size, 0, none⟩ = some (.int .i64 1) ∧ u.cell? ⟨w.heap.size, 1, none⟩ = some (.int .i64 2) ∧ u.cell? ⟨w.heap.size, 2, none⟩ = some (.int .i64 3) ∧ u.cell? ⟨w.heap.size, 3, none⟩ = some (.int .i64 4)) := Lib.hid fun u hu =>
    ⟨(hu.cell (p := ⟨w.heap.size, 0, none⟩) q0).trans (HA.out 0 (by omega)), (hu.cell (p := ⟨w.heap.size, 1, none⟩) q0).trans (HA.out 1 (by omega)), (hu.cell (p := ⟨w.heap.size, 2, none⟩) q0).trans (HA.out 2 (by omega)), (hu.cell (p := ⟨w.heap.size, 3, none⟩) q0).trans (HA.out 3 (by omega))⟩
  have KB : Hid (∀ u, Below W2.heap.size W2 u → u.cell? ⟨w.heap.size + 1, 0, none⟩ = some (.int .i64 1) ∧ u.cell? ⟨w.heap.size + 1, 1, none⟩ = some (.int .i64 2) ∧ u.cell? ⟨w.heap.size + 1, 2, none⟩ = some (.int .i64 3) ∧ u.cell? ⟨w.heap.size + 1, 3, none⟩ = some (.int .i64 5)) := Lib.hid fun u hu =>
    ⟨(hu.cell (p := ⟨w.heap.size + 1, 0, none⟩) q1).trans (HB.out 0 (by omega)), (hu.cell (p := ⟨w.heap.size + 1, 1, none⟩) q1).trans (HB.out 1 (by omega)), (hu.cell (p := ⟨w.heap.size + 1, 2, none⟩) q1).trans (HB.out 2 (by omega)), (hu.cell (p := ⟨w.heap.size + 1, 3, none⟩) q1).trans (HB.out 3 (by omega))⟩
  have HW6 := Lib.hid hW6
  have BW6 := Lib.hid (hb2.trans (hb6.mono hb2.size))
  have B6 := Lib.hid hb6
  obtain ⟨a0, a1, a2, a3⟩ := KA.out w5 hb5'
  obtain ⟨b0, b1, b2, b3⟩ := KB.out w5 hb5'
  have hz0 : w.heap.size < w5.heap.size := by have := hb5'.size; omega
  have hz1 : w.heap.size + 1 < w5.heap.size := by have := hb5'.size; omega
  clear hb5' HR3' HR4 HR5 hb56 hb6 hW6 HA HB H2 hb2
  go_wp2_with fail
  rw [show w5.alloc (.cells #[.int .i64 1, .int .i64 1, .int .i64 0, .int .i64 0] 26) = W6 from HW6.out.symm]
  refine (ex_domC _).mono ?_
  rintro e w7 ⟨rfl, hb7⟩
  have B7 := Lib.hid (bthen B6.out hb7 (Nat.le_refl _))
  have C7 := Lib.hid hb7
  obtain ⟨d0, d1, d2, d3⟩ := KA.out w7 B7.out
  clear a0 a1 a2 a3 b0 b1 b2 b3 hb7
  go_wp2_with fail
  refine (ex_domD _).mono ?_
  rintro e w8 ⟨rfl, hb8⟩
  have C8 := Lib.hid (bthen C7.out hb8 (Nat.le_refl _))
  clear d0 d1 d2 d3 hb8 C7
  go_wp2_with fail
  refine (to_any _ _ _ exF _ (RL.out.stays C8.out) (by omega)).mono ?_
  rintro e w9 ⟨v9, rfl, hr9, hb9⟩
  rw [show exF.length = 2 from rfl] at hr9
  obtain ⟨A9, c9, rfl, hc9⟩ := ownsRow_slice hr9
  have C9 := Lib.hid (bthen C8.out hb9 (Nat.le_refl _))
  have R9 := Lib.hid hr9
  clear hr9 hb9 C8
  go_wp2_with fail
  refine (same_self _ _ _ _ _ exF _ ((VecsAt.own R9.out).alloc _) (VecsAt.own (own_lit w9 w9.heap.size (Nat.le_refl _) exF 2 _ rfl rfl (by unfold maxLen; omega) 26)) (by omega)).mono ?_
  rintro e w10 ⟨rfl, q10, rfl⟩
  have C10 := Lib.hid (bdrewN (balloc C9.out (.cells #[.int .i64 1, .int .i64 2, .int .i64 0, .int .i64 0, .int .i64 2, .int .i64 1, .int .i64 0, .int .i64 0] 26) (Nat.le_refl _)) q10)
  clear C9 R9
  go_wp2_with fail
  refine (to_any _ _ _ exM _ (RM.out.stays C10.out) (by omega)).mono ?_
  rintro e w11 ⟨v11, rfl, hr11, hb11⟩
  rw [show exM.length = 1 from rfl] at hr11
  obtain ⟨A11, c11, rfl, hc11⟩ := ownsRow_slice hr11
  have C11 := Lib.hid (bthen C10.out hb11 (Nat.le_refl _))
  have R11 := Lib.hid hr11
  clear hr11 hb11 C10
  go_wp2_with fail
  refine (same_self _ _ _ _ _ exM _ (VecsAt.own R11.out) (RO.out.stays C11.out) (by omega)).mono ?_
  rintro e w12 ⟨rfl, q12, rfl⟩
  have C12 := Lib.hid (bdrewN C11.out q12)
  clear C11 R11
  go_wp2_with fail
  refine (to_any _ _ _ exM _ (RK.out.stays C12.out) (by omega)).mono ?_
  rintro e w13 ⟨v13, rfl, hr13, hb13⟩
  rw [show exM.length = 1 from rfl] at hr13
  obtain ⟨A13, c13, rfl, hc13⟩ := ownsRow_slice hr13
  have C13 := Lib.hid (bthen C12.out hb13 (Nat.le_refl _))
  have R13 := Lib.hid hr13
  clear hr13 hb13 C12
  go_wp2_with fail
  refine (same_self _ _ _ _ _ exM _ (VecsAt.own R13.out) (RO.out.stays C13.out) (by omega)).mono ?_
  rintro e w14 ⟨rfl, q14, rfl⟩
  have HF := Lib.hid (BW6.out.trans ((bdrewN C13.out q14).mono BW6.out.size))
  clear C13 R13
  go_wp2
  go_ret
  exact ⟨rfl, HF.out⟩
end Go.Proofs.Ytgcngipbjkmdoaa
