/-
  The examples of the chapter. By hand.
-/
import Derived.Test.YtabhinmodnmllaaSqM
import Derived.Test.YtabhinmodnmllaaSqI
import Derived.Test.YtabhinmodnmllaaSpU
namespace Go.Proofs.Ytabhinmodnmllaa
open Go.RowKit

def ex3 : List Edge := [⟨0, 1, 5⟩, ⟨1, 2, 5⟩, ⟨0, 2, 10⟩]
def ex1 : List Edge := [⟨2, 0, 0⟩]
theorem ex_dist : checkN 3 ex3 [0] = 0 ∧ distL ex3 3 0 = [0, 5, 10] := by decide +kernel
theorem ex_path : checkN 3 ex3 [0, 2] = 0 ∧ ¬ gi (costsOf ex3 3 2) 0 < 0 ∧ gi (costsOf ex3 3 2) 0 / 128 = 10 ∧ pathL ex3 3 0 2 = [0, 2] := by decide +kernel
theorem ex_none : checkN 3 ex3 [2, 0] = 0 ∧ gi (costsOf ex3 3 0) 2 < 0 := by decide +kernel
theorem ex_comp : checkI 4 ex1 = 0 ∧ compL ex1 4 = [0, 1, 0, 2] := by decide +kernel

theorem ex_any (w : World) : Calls Try.prog 10 #[] w fun e w' => e = .returned (.bool true) ∧ Below w.heap.size w w' := by
  have HL3 := Lib.hid (SAt.own (own_lit edgeC w w.heap.size (Nat.le_refl _) ex3 3 #[.int .i64 0, .int .i64 1, .int .i64 5, .int .i64 1, .int .i64 2, .int .i64 5, .int .i64 0, .int .i64 2, .int .i64 10] rfl rfl (by unfold maxLen; omega) 47) (by decide))
  have hb0 := al1 w (.cells #[.int .i64 0, .int .i64 1, .int .i64 5, .int .i64 1, .int .i64 2, .int .i64 5, .int .i64 0, .int .i64 2, .int .i64 10] 47)
  have HB0 := Lib.hid hb0
  clear hb0
  go_enter Try.func10, Try.ntmps10
  go_wp2_with fail
  refine (dist_any _ 3 0 3 _ ex3 _ HL3.out (.inl (by omega))).mono ?_
  rintro e w1 h1
  have h1 := h1.toR (.inl (by decide))
  obtain ⟨A1, c1, he, hd1⟩ := h1.2.1 ex_dist.1
  replace he : e = .returned (.tuple #[.slice A1 3 c1, .int .i64 0]) := he
  subst he
  replace hd1 : IntsAt w1 A1 3 (distL ex3 3 0) := hd1
  rw [ex_dist.2] at hd1
  have HD1 := Lib.hid hd1
  have HL31 := Lib.hid (HL3.out.stays h1.2.2)
  have HB1 := Lib.hid (bthen HB0.out h1.2.2 (Nat.le_refl _))
  clear hd1 h1
  go_wp2_with fail
  refine (path_any _ 3 0 2 3 _ ex3 _ HL31.out (.inl (by omega))).mono ?_
  rintro e w2 h2
  obtain ⟨A2, c2, he, hd2⟩ := h2.2.2.1 ex_path.1 ex_path.2.1
  replace he : e = .returned (.tuple #[.slice A2 (pathL ex3 3 0 2).length c2, .int .i64 (gi (costsOf ex3 3 2) 0 / 128), .int .i64 0]) := he
  replace hd2 : IntsAt w2 A2 (pathL ex3 3 0 2).length (pathL ex3 3 0 2) := hd2
  rw [ex_path.2.2.1, ex_path.2.2.2] at he
  rw [ex_path.2.2.2] at hd2
  replace he : e = .returned (.tuple #[.slice A2 2 c2, .int .i64 10, .int .i64 0]) := he
  subst he
  replace hd2 : IntsAt w2 A2 2 [0, 2] := hd2
  have HD2 := Lib.hid hd2
  have HD1 := Lib.hid (HD1.out.stays h2.2.2.2)
  have HL32 := Lib.hid (HL31.out.stays h2.2.2.2)
  have HB2 := Lib.hid (bthen HB1.out h2.2.2.2 (Nat.le_refl _))
  clear hd2 h2
  go_wp2_with fail
  refine (path_any _ 3 2 0 3 _ ex3 _ HL32.out (.inl (by omega))).mono ?_
  rintro e w3 h3
  have he := h3.2.1 ex_none.1 ex_none.2
  subst he
  have HD1 := Lib.hid (HD1.out.stays h3.2.2.2)
  have HD2 := Lib.hid (HD2.out.stays h3.2.2.2)
  have HB3 := Lib.hid (bthen HB2.out h3.2.2.2 (Nat.le_refl _))
  clear h3
  have HL1 := Lib.hid (SAt.own (own_lit edgeC w3 w3.heap.size (Nat.le_refl _) ex1 1 #[.int .i64 2, .int .i64 0, .int .i64 0] rfl rfl (by unfold maxLen; omega) 47) (by decide))
  have hb4 := al1 w3 (.cells #[.int .i64 2, .int .i64 0, .int .i64 0] 47)
  have HD1 := Lib.hid (HD1.out.stays hb4)
  have HD2 := Lib.hid (HD2.out.stays hb4)
  have HB4 := Lib.hid (bthen HB3.out hb4 (Nat.le_refl _))
  clear hb4
  go_wp2_with fail
  refine (comp_any _ 4 1 _ ex1 _ HL1.out).mono ?_
  rintro e w5 h5
  obtain ⟨A5, c5, he, hd5⟩ := h5.2.1 ex_comp.1
  replace he : e = .returned (.tuple #[.slice A5 4 c5, .int .i64 0]) := he
  subst he
  replace hd5 : IntsAt w5 A5 4 (compL ex1 4) := hd5
  rw [ex_comp.2] at hd5
  have HD5 := Lib.hid hd5
  have HD1 := Lib.hid (HD1.out.stays h5.2.2)
  have HD2 := Lib.hid (HD2.out.stays h5.2.2)
  have HB5 := Lib.hid (bthen HB4.out h5.2.2 (Nat.le_refl _))
  clear hd5 h5
  have hb6 := al1 w5 (.cells #[.int .i64 0, .int .i64 5, .int .i64 10] 3)
  have HD1 := Lib.hid (HD1.out.stays hb6)
  have HD2 := Lib.hid (HD2.out.stays hb6)
  have HD5 := Lib.hid (HD5.out.stays hb6)
  have HB6 := Lib.hid (bthen HB5.out hb6 (Nat.le_refl _))
  clear hb6
  go_wp2_with fail
  refine (same_self A1 _ 3 3 c1 3 [0, 5, 10] _ HD1.out (IntsAt.lit w5 3 [0, 5, 10]) (by omega)).mono ?_
  rintro e w7 ⟨rfl, q7, rfl⟩
  obtain ⟨W6, hW6⟩ : ∃ W6, W6 = (w5.alloc (.cells #[.int .i64 0, .int .i64 5, .int .i64 10] 3)).drewN q7 := ⟨_, rfl⟩
  have HD2 : Hid (IntsAt W6 A2 2 [0, 2]) := Lib.hid (by rw [hW6]; exact HD2.out)
  have HD5 : Hid (IntsAt W6 A5 4 [0, 1, 0, 2]) := Lib.hid (by rw [hW6]; exact HD5.out)
  have HB6 : Hid (Below w.heap.size w W6) := Lib.hid (by rw [hW6]; exact bdrewN HB6.out _)
  have hw6 : (w5.alloc (.cells #[.int .i64 0, .int .i64 5, .int .i64 10] 3)).drewN q7 = W6 := hW6.symm
  clear hW6
  have hb7 := al1 W6 (.cells #[.int .i64 0, .int .i64 2] 3)
  have HD2 := Lib.hid (HD2.out.stays hb7)
  have HD5 := Lib.hid (HD5.out.stays hb7)
  have HB7 := Lib.hid (bthen HB6.out hb7 (Nat.le_refl _))
  clear hb7
  go_wp2_with fail
  try rw [hw6]
  refine (same_self A2 _ 2 2 c2 2 [0, 2] _ HD2.out (IntsAt.lit W6 3 [0, 2]) (by omega)).mono ?_
  rintro e w8 ⟨rfl, q8, rfl⟩
  obtain ⟨W7, hW7⟩ : ∃ W7, W7 = (W6.alloc (.cells #[.int .i64 0, .int .i64 2] 3)).drewN q8 := ⟨_, rfl⟩
  have HD5 : Hid (IntsAt W7 A5 4 [0, 1, 0, 2]) := Lib.hid (by rw [hW7]; exact HD5.out)
  have HB7 : Hid (Below w.heap.size w W7) := Lib.hid (by rw [hW7]; exact bdrewN HB7.out _)
  have hw7 : (W6.alloc (.cells #[.int .i64 0, .int .i64 2] 3)).drewN q8 = W7 := hW7.symm
  clear hW7 hw6
  have hb8 := al1 W7 (.cells #[.int .i64 0, .int .i64 1, .int .i64 0, .int .i64 2] 3)
  have HD5 := Lib.hid (HD5.out.stays hb8)
  have HB8 := Lib.hid (bthen HB7.out hb8 (Nat.le_refl _))
  clear hb8
  go_wp2_with fail
  try rw [hw7]
  refine (same_self A5 _ 4 4 c5 4 [0, 1, 0, 2] _ HD5.out (IntsAt.lit W7 3 [0, 1, 0, 2]) (by omega)).mono ?_
  rintro e w9 ⟨rfl, q9, rfl⟩
  go_wp2
  go_ret
  exact ⟨rfl, bdrewN HB8.out _⟩
end Go.Proofs.Ytabhinmodnmllaa
