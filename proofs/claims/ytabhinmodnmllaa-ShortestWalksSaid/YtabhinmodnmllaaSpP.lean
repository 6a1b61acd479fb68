/-
  lengths: the row of ints out of labels. Printed by gen/sp6.py.
-/
import Derived.Test.YtabhinmodnmllaaSpO
namespace Go.Proofs.Ytabhinmodnmllaa
open Go.RowKit

/-- rows of ints -/
def intC : Codec Int where
  cs x := [.int .i64 x]
  sz := 1
  d := 0
  len _ := rfl
  one x u hu := by
    simp at hu
    subst hu
    rfl
theorem int_info : (Try.prog.info? 3).map (fun i => (i.zero, i.size, i.bytes)) = some (some (.int .i64 0), 1, 8) := by kernel_rfl
/-- the first k lengths are set -/
def lenTo (out : List Lab) (n k : Nat) : List Int := (List.range n).map fun (i : Nat) => if i < k then (gl out i).len else 0
theorem lenTo_len (out : List Lab) (n k : Nat) : (lenTo out n k).length = n := by simp [lenTo]
theorem lenTo_zero (out : List Lab) (n : Nat) : lenTo out n 0 = List.replicate n 0 := by
  rw [List.eq_replicate_iff]
  refine ⟨lenTo_len out n 0, fun b hb => ?_⟩
  obtain ⟨i, _, rfl⟩ := List.mem_map.1 hb
  rfl
theorem lenTo_set {out : List Lab} {n k : Nat} (hk : k < n) : (lenTo out n k).set k (gl out k).len = lenTo out n (k + 1) := by
  apply List.ext_getElem
  · rw [List.length_set, lenTo_len, lenTo_len]
  · intro i h1 h2
    rw [lenTo_len] at h2
    rw [List.getElem_set]
    by_cases e : k = i
    · subst e
      simp [lenTo]
    · rw [if_neg e]
      simp only [lenTo, List.getElem_map, List.getElem_range]
      by_cases h3 : i < k
      · rw [if_pos h3, if_pos (by omega)]
      · rw [if_neg h3, if_neg (by omega)]
/-- the lengths of labels -/
def lens (out : List Lab) (n : Nat) : List Int := lenTo out n n
theorem lens_len (out : List Lab) (n : Nat) : (lens out n).length = n := lenTo_len out n n
theorem lens_at {out : List Lab} {n k : Nat} (h : k < n) : gi (lens out n) k = (gl out k).len := by
  rw [gi_eq (by rw [lens_len]; exact h)]
  simp [lens, lenTo, h]
theorem int_all (xs : List Int) : intC.all xs = xs.map (Value.int .i64) := by
  unfold Codec.all
  induction xs with
  | nil => rfl
  | cons x t ih => rw [List.flatMap_cons, ih]; rfl
theorem made_int (n : Nat) : (madeCells #[.int .i64 0] (n * 1)).toList = intC.all (List.replicate n 0) := by
  rw [int_all, List.map_replicate, List.eq_replicate_iff]
  refine ⟨by simp [madeCells], fun b hb => ?_⟩
  simp [madeCells] at hb
  obtain ⟨q, hq, rfl⟩ := hb
  simp [show q % 1 = 0 by omega]

set_option maxRecDepth 100000 in
set_option maxHeartbeats 2000000 in
theorem lengths_any (A : Option Addr) (n c : Nat) (out : List Lab) (w : World) (hx : SAt labC w A n out) (hn : n ≤ 1000) : Calls Try.prog 24 #[.slice A n c] w fun e w' => MadeInts w (lens out n) e w' := by
  obtain ⟨i0, hi, hz0, hz1, hz2⟩ := info_parts int_info
  have HX := Lib.hid hx
  clear hx
  go_enter Try.func24, Try.ntmps24
  go_wp2_with (first | (at_make; refine wpList_make_full _ rfl _ _ 25 rfl w.heap.size 3 i0 (.int .i64 0) 1 Try.underlying25 hi hz0 hz1 .i64 .i64 _ _ n rfl rfl (by omega) (by omega) (by rw [hz2]; omega) (by unfold maxLen; omega) (Nat.le_refl _) ?_; intro w2 hr2 hg2; have HB2 := Lib.hid ((Below.refl _ w).grown hg2 (Nat.le_refl _) (by simp)); have HO2 : Hid (w2.ownsRow w.heap.size 3 intC.sz (.slice (some ⟨w.heap.size, 0, none⟩) n n) n (intC.all (lenTo out n 0))) := Lib.hid (by rw [lenTo_zero, ← made_int]; exact hr2); clear hr2 hg2))
  go_loopw [11] (fun i wr => ∃ k : Nat, k ≤ n ∧ i = .int .i64 k ∧ Hid (wr.ownsRow w.heap.size 3 intC.sz (.slice (some ⟨w.heap.size, 0, none⟩) n n) n (intC.all (lenTo out n k))) ∧ Hid (Below w.heap.size w wr)) (fun i _ => n - (intOf i).toNat)
  case atStart => exact ⟨0, by omega, rfl, HO2, HB2⟩
  case round =>
    obtain ⟨k, hkn, rfl, HO, HB⟩ := hrel
    have k0 : (0 : Int) ≤ (k : Int) := by omega
    by_cases hlt : k < n
    · have hlt' : (k : Int) < (n : Int) := by omega
      obtain ⟨b, o, hA, _⟩ := HX.out.at_ hlt
      subst hA
      obtain ⟨c0, c1, c2⟩ := lab_cells (HX.out.stays HB.out) hlt
      have HST := Lib.hid (lenTo_set (out := out) hlt)
      obtain ⟨X, hX⟩ : ∃ X, X = wr.heap.size := ⟨_, rfl⟩
      obtain ⟨W, hW⟩ : ∃ W, W = wr.alloc (.cells #[.int .i64 (gl out k).node, .int .i64 (gl out k).len, .int .i64 (gl out k).edges] 57) := ⟨_, rfl⟩
      have hbW : Below wr.heap.size wr W := by rw [hW]; exact al1 _ _
      have HXB : Hid (Box2 W X (gl out k)) := Lib.hid (by rw [hW]; exact Box2.new wr _ _ _ hX)
      have HO3 := Lib.hid (ownsRow_stays HO.out hbW)
      have HB3 := Lib.hid (bthen HB.out hbW (Nat.le_refl _))
      clear hbW
      go_upto_region 5 with fail
      rw [← hW, ← hX]
      clear hW hX c0 c1 c2
      obtain ⟨b0, b1, b2, _, _, _⟩ := HXB.out
      obtain ⟨q0, q1⟩ : W.cell? ⟨w.heap.size, k, none⟩ = some (.int .i64 (intC.g (lenTo out n k) k)) ∧ W.frozen? ⟨w.heap.size, k, none⟩ = false := ⟨by have := (SAt.own HO3.out (by decide)).cells hlt 0 _ rfl; simpa [intC] using this, HO3.out.frozenAt _⟩
      go_wp2
      go_roundw
      case rel => exact ⟨k + 1, by omega, by go_num, Lib.hid (by rw [← HST.out]; have := own_store (j := 0) HO3.out (k := k) (by rw [lenTo_len]; exact hlt) (by decide) (gl out k).len (.int .i64 (gl out k).len) rfl; simpa [intC] using this), Lib.hid (HB3.out.setCell (Nat.le_refl _) _)⟩
      case measure => simp [intOf]; omega
    · obtain rfl : k = n := by omega
      have hd0 : ¬ ((k : Int) < (k : Int)) := by omega
      go_wp2
      go_ret
      refine MadeInts.mk (base := w.heap.size) (e := 3) ?_ HB.out
      have := HO.out
      rw [int_all] at this
      rw [lens_len]
      exact this
end Go.Proofs.Ytabhinmodnmllaa
