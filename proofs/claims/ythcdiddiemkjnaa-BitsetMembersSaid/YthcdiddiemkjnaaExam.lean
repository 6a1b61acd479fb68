/-
  The chapter's examples hold.
-/
import Derived.Test.YthcdiddiemkjnaaFirst
import Derived.Test.YthcdiddiemkjnaaSame
namespace Go.Proofs.Ythcdiddiemkjnaa
open Go.RowKit Go.Shelf
open Bs (U64 ofN rangeTo listN)

theorem ex_min (w : World) : Calls Try.prog 24 #[.int .u64 (ofN [5, 2] : Nat)] w fun e w' => e = .returned (.tuple #[.int .i64 2, .bool true]) ∧ Below w.heap.size w w' := by
  have h := min_any (ofN [5, 2]) w (Bs.uOf _)
  rw [show headOr (listN (ofN [5, 2])) = 2 by decide +kernel, show some1 (listN (ofN [5, 2])) = true by decide +kernel] at h
  exact h
theorem ex_list (w : World) : Calls Try.prog 27 #[.int .u64 (rangeTo 62 70 64 : Nat)] w fun e w' => MadeInts w [62, 63] e w' := by
  have h := list_any (rangeTo 62 70 64) w (Bs.uRange _ _ _)
  rw [show listN (rangeTo 62 70 64) = [62, 63] by decide +kernel] at h
  exact h
theorem ex_first (w : World) : Calls Try.prog 17 #[.int .u64 (ofN [1, 2, 3] : Nat), .int .i64 2] w fun e w' => MadeInts w [1, 2] e w' := by
  have h := first_any (ofN [1, 2, 3]) 2 w (Bs.uOf _) (by omega)
  rw [show (listN (ofN [1, 2, 3])).take (2 : Int).toNat = [1, 2] by decide +kernel] at h
  exact h
theorem ex_of : (((ofN [3, 64, -1, 0, 3] : Nat) : Int) == 9) = true := by decide +kernel

set_option maxHeartbeats 1000000 in
theorem ex_any (w : World) :
    Calls Try.prog 10 #[] w fun e w' => e = .returned (.bool true) ∧ Below w.heap.size w w' := by
  have hof := ex_of
  go_enter Try.func10, Try.ntmps10
  go_wp2_with fail
  refine (of_any _ 2 2 [5, 2] _ (IntsAt.lit _ _ [5, 2]) (by omega)).mono ?_
  rintro e w' ⟨rfl, rfl⟩
  go_wp2_with fail
  refine (ex_min _).mono ?_
  rintro e w1 ⟨rfl, hb1⟩
  go_wp2_with fail
  refine (range_any 62 70 _ (by omega)).mono ?_
  rintro e w' ⟨rfl, rfl⟩
  go_wp2_with fail
  refine (ex_list _).mono ?_
  rintro e w2 ⟨A, c, rfl, hx, hu, _, hb2, hA⟩
  obtain ⟨g, rfl⟩ := hA (by simp)
  have d0 := hx.at_ 0 (by simp)
  have d1 := hx.at_ 1 (by simp)
  have hg : g < w2.heap.size := hu (by simp) _ rfl
  clear hx hu hA
  go_wp2_with fail
  refine (of_any _ 3 3 [1, 2, 3] _ (IntsAt.lit _ _ [1, 2, 3]) (by omega)).mono ?_
  rintro e w' ⟨rfl, rfl⟩
  go_wp2_with fail
  refine (ex_first _).mono ?_
  rintro e w3 ⟨A, c', rfl, hx, hu, _, hb3, hA⟩
  obtain ⟨g', rfl⟩ := hA (by simp)
  have e1 := hx.at_ 1 (by simp)
  have hg' : g' < w3.heap.size := hu (by simp) _ rfl
  clear hx hu hA
  have d0' := (hb3.cell (p := ⟨g, 0, none⟩) (by simp; omega)).trans ((World.cell?_alloc_lt _ _ _ hg).trans d0)
  have d1' := (hb3.cell (p := ⟨g, 1, none⟩) (by simp; omega)).trans ((World.cell?_alloc_lt _ _ _ hg).trans d1)
  have s3 := hb3.size
  clear d0 d1
  go_wp2_with fail
  refine (of_any _ 5 5 [3, 64, -1, 0, 3] _ (IntsAt.lit _ _ [3, 64, -1, 0, 3]) (by omega)).mono ?_
  rintro e w' ⟨rfl, rfl⟩
  have d0 := (World.cell?_alloc_lt w3 (.cells #[.int .i64 3, .int .i64 64, .int .i64 (-1), .int .i64 0, .int .i64 3] 3) ⟨g, 0, none⟩ (by simp at s3 ⊢; omega)).trans d0'
  have d1 := (World.cell?_alloc_lt w3 (.cells #[.int .i64 3, .int .i64 64, .int .i64 (-1), .int .i64 0, .int .i64 3] 3) ⟨g, 1, none⟩ (by simp at s3 ⊢; omega)).trans d1'
  have e1' := (World.cell?_alloc_lt w3 (.cells #[.int .i64 3, .int .i64 64, .int .i64 (-1), .int .i64 0, .int .i64 3] 3) ⟨g', 1, none⟩ (by simpa using hg')).trans e1
  simp only [gi] at d0 d1 e1'
  go_wp2_with fail
  go_ret
  refine ⟨rfl, ?_⟩
  have r := Nat.le_refl w.heap.size
  exact balloc (bthen (balloc (bthen (bthen (balloc (Below.refl _ w) _ r) hb1 r) hb2 r) _ r) hb3 r) _ r
end Go.Proofs.Ythcdiddiemkjnaa
