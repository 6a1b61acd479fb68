/-
  Check of the reference; to, turned. Printed by gen/sp2.py.
-/
import Derived.Test.YtabhinmodnmllaaSpF
namespace Go.Proofs.Ytabhinmodnmllaa
open Go.RowKit

set_option maxRecDepth 100000 in
set_option maxHeartbeats 2000000 in
theorem rcheck_any (n : Int) (A : Option Addr) (m c : Nat) (l : List Edge) (w : World) (hx : SAt edgeC w A m l) :
    Calls Try.prog 19 #[.int .i64 n, .slice A m c] w fun e w' => e = .returned (.int .i64 (checkI n l)) ∧ w = w' := by
  have HX := Lib.hid hx
  have HL := Lib.hid hx.1
  clear hx
  by_cases h1 : n < 0
  · have HF := Lib.hid (check_n (l := l) (.inl h1))
    go_enter Try.func19, Try.ntmps19
    go_wp2
    go_ret
    exact ⟨ret_int HF.out.symm, rfl⟩
  by_cases h2 : 64 < n
  · have HF := Lib.hid (check_n (l := l) (.inr h2))
    go_enter Try.func19, Try.ntmps19
    go_wp2
    go_ret
    exact ⟨ret_int HF.out.symm, rfl⟩
  have hnn : ¬ (n < 0 ∨ 64 < n) := by omega
  by_cases h3 : (4096 : Int) < (m : Int)
  · have HF := Lib.hid (check_long HL.out hnn h3)
    go_enter Try.func19, Try.ntmps19
    go_wp2
    go_ret
    exact ⟨ret_int HF.out.symm, rfl⟩
  have hm : m ≤ 4096 := by omega
  go_enter Try.func19, Try.ntmps19
  go_wp2
  go_loopw [5] (fun i wr => ∃ k : Nat, k ≤ m ∧ i = .int .i64 k ∧ Hid (errTo n l k = 0) ∧ wr = w) (fun i _ => m - (intOf i).toNat)
  case atStart => exact ⟨0, by omega, rfl, Lib.hid rfl, rfl⟩
  case round =>
    obtain ⟨k, hkm, rfl, HE, rfl⟩ := hrel
    have k0 : (0 : Int) ≤ (k : Int) := by omega
    by_cases hlt : k < m
    · have hlt' : (k : Int) < (m : Int) := by omega
      obtain ⟨b, o, hA, _⟩ := HX.out.at_ hlt
      subst hA
      obtain ⟨c0, c1, c2⟩ := edge_cells HX.out hlt
      by_cases a1 : (ge l k).src < 0
      · have HF := Lib.hid (check_at HL.out hnn hm hlt HE.out (eE_src (decide_eq_true (.inl a1))) (by omega))
        go_wp2
        go_ret
        exact ⟨ret_int HF.out.symm, rfl⟩
      by_cases a2 : n ≤ (ge l k).src
      · have HF := Lib.hid (check_at HL.out hnn hm hlt HE.out (eE_src (decide_eq_true (.inr a2))) (by omega))
        go_wp2
        go_ret
        exact ⟨ret_int HF.out.symm, rfl⟩
      by_cases a3 : (ge l k).dst < 0
      · have HF := Lib.hid (check_at HL.out hnn hm hlt HE.out (eE_dst (decide_eq_true (.inl a3))) (by omega))
        go_wp2
        go_ret
        exact ⟨ret_int HF.out.symm, rfl⟩
      by_cases a4 : n ≤ (ge l k).dst
      · have HF := Lib.hid (check_at HL.out hnn hm hlt HE.out (eE_dst (decide_eq_true (.inr a4))) (by omega))
        go_wp2
        go_ret
        exact ⟨ret_int HF.out.symm, rfl⟩
      have s1 : badN n (ge l k).src = false := decide_eq_false (by omega)
      have s2 : badN n (ge l k).dst = false := decide_eq_false (by omega)
      have S1 := Lib.hid s1
      have S2 := Lib.hid s2
      clear s1 s2
      by_cases a5 : (ge l k).wt < 0
      · have HF := Lib.hid (check_at HL.out hnn hm hlt HE.out (eE_wt S1.out S2.out (.inl a5)) (by omega))
        go_wp2
        go_ret
        exact ⟨ret_int HF.out.symm, rfl⟩
      by_cases a6 : 1073741824 < (ge l k).wt
      · have HF := Lib.hid (check_at HL.out hnn hm hlt HE.out (eE_wt S1.out S2.out (.inr a6)) (by omega))
        go_wp2
        go_ret
        exact ⟨ret_int HF.out.symm, rfl⟩
      have HE2 := Lib.hid ((errTo_step HE.out).trans (eE_ok S1.out S2.out (by omega)))
      go_wp2
      go_roundw
      case rel => exact ⟨k + 1, by omega, by go_num, HE2, by first | rfl | trivial⟩
      case measure => simp [intOf]; omega
    · obtain rfl : k = m := by omega
      have hd0 : ¬ ((k : Int) < (k : Int)) := by omega
      have HC := Lib.hid (check_all HL.out hnn hm HE.out)
      go_wp2
      go_ret
      exact ⟨ret_int HC.out.symm, rfl⟩

/-- an edge turned round -/
def turnE (e : Edge) : Edge := ⟨e.dst, e.src, e.wt⟩
/-- all edges turned round -/
def turnL (l : List Edge) : List Edge := l.map turnE
theorem turnL_len (l : List Edge) : (turnL l).length = l.length := by simp [turnL]
theorem turn_take {l : List Edge} {k n : Nat} (hn : l.length = n) (hk : k < n) : turnL (l.take (k + 1)) = turnL (l.take k) ++ [turnE (ge l k)] := by
  rw [edgeC.g_take (by omega)]
  simp [turnL, ge]
theorem edge1_info : (Try.prog.info? 47).map (fun i => (i.zero, i.size, i.bytes)) = some (some (.agg #[.int .i64 0, .int .i64 0, .int .i64 0]), 3, 24) := by kernel_rfl
theorem edge2_info : (Try.prog.info? 46).map (fun i => (i.zero, i.size, i.bytes)) = some (some (.agg #[.int .i64 0, .int .i64 0, .int .i64 0]), 3, 24) := by kernel_rfl

set_option maxRecDepth 100000 in
set_option maxHeartbeats 2000000 in
theorem to_any (A : Option Addr) (n c : Nat) (l : List Edge) (w : World) (hx : SAt edgeC w A n l) (hn : n ≤ 10000) :
    Calls Try.prog 12 #[.slice A n c] w fun e w' => MadeRow edgeC w 47 l e w' := by
  obtain ⟨i0, hi, hz0, hz1, hz2⟩ := info_parts edge1_info
  have HX := Lib.hid hx
  clear hx
  go_enter Try.func12, Try.ntmps12
  go_wp2
  go_loopw [3, 4] (fun so i wr => ∃ k : Nat, k ≤ n ∧ i = .int .i64 k ∧ Hid (wr.ownsRow w.heap.size 47 edgeC.sz so k (edgeC.all (l.take k))) ∧ Hid (Below w.heap.size w wr)) (fun _ i _ => n - (intOf i).toNat)
  case atStart => exact ⟨0, by omega, rfl, Lib.hid (World.ownsRow_nil _ _ _ _), Lib.hid (Below.refl _ _)⟩
  case round =>
    obtain ⟨k, hkn, rfl, HO, HB⟩ := hrel
    have k0 : (0 : Int) ≤ (k : Int) := by omega
    by_cases hlt : k < n
    · have hlt' : (k : Int) < (n : Int) := by omega
      obtain ⟨b, o, hA, _⟩ := HX.out.at_ hlt
      subst hA
      have HXW := Lib.hid (HX.out.stays HB.out)
      have HST := Lib.hid (edgeC.g_take (show k < l.length by rw [HX.out.1]; exact hlt))
      have hS := edge_cells (HXW.out.stays (Below.refl _ _).drew) hlt
      have hS2 := fun o => edge_cells (HXW.out.stays ((al1 wr o).drew)) hlt
      go_wp2_with fail
      go_region_held3 (fun u => u.cell? ⟨b, o + k * 3, none⟩ = some (.int .i64 (ge l k).src) ∧ u.cell? ⟨b, o + k * 3 + 1, none⟩ = some (.int .i64 (ge l k).dst) ∧ u.cell? ⟨b, o + k * 3 + 2, none⟩ = some (.int .i64 (ge l k).wt)) ((first | exact hS | exact hS2 _ | exact hS8)) ((first | (refine step_append_own rfl (.tmp 11) (.tmp 28) 29 rfl w.heap.size 47 i0 (.agg #[.int .i64 0, .int .i64 0, .int .i64 0]) edgeC.sz 24 Try.underlying29 hi hz0 hz1 hz2 rfl (by decide) _ k (edgeC.all (l.take k)) (by simp [Act.eval]) (show (World.alloc wr.drew _).ownsRow _ _ _ _ _ _ from (HO.out.alloc _)) ⟨wr.heap.size, 0, none⟩ 1 1 (edgeC.cs (ge l k)) (by simp [Act.eval]) rfl (cs_new edgeC wr.drew (ge l k) _ _ rfl) (edgeC.one _) (by unfold maxLen; omega) (by omega) (by have := HB.out.size; simp; omega) ?_; intro v8 w8 hown8 hg8 _; have HB8 := Lib.hid (below_app (HB.out.drew) (show w.heap.size ≤ wr.drew.heap.size from HB.out.size) (Nat.le_refl _) (show wr.drew.ownsRow _ _ _ _ _ _ from HO.out) hg8); have HO8 := Lib.hid hown8; have hS8 := edge_cells (HX.out.stays HB8.out) hlt; clear hown8 hg8)))
      all_goals
        have HO9 : Hid (w8.ownsRow w.heap.size 47 edgeC.sz v8 (k + 1) (edgeC.all (l.take (k + 1)))) := Lib.hid (by rw [HST.out, edgeC.all_app, edgeC.all_one]; exact HO8.out)
        go_wp2
        go_roundw
        case rel => exact ⟨k + 1, by omega, by go_num, HO9, HB8⟩
        case measure => simp [intOf]; omega
    · obtain rfl : k = n := by omega
      have hd0 : ¬ ((k : Int) < (k : Int)) := by omega
      have HEND := Lib.hid ((List.take_of_length_le (by rw [HX.out.1]; omega) : l.take k = l))
      go_wp2
      go_ret
      exact ⟨_, rfl, by rw [← HEND.out]; have := HX.out.1; rw [List.length_take, Nat.min_eq_left (by omega)]; exact HO.out, HB.out⟩

set_option maxRecDepth 100000 in
set_option maxHeartbeats 2000000 in
theorem turned_any (A : Option Addr) (n c : Nat) (l : List Edge) (w : World) (hx : SAt edgeC w A n l) (hn : n ≤ 10000) :
    Calls Try.prog 28 #[.slice A n c] w fun e w' => MadeRow edgeC w 46 (turnL l) e w' := by
  obtain ⟨i0, hi, hz0, hz1, hz2⟩ := info_parts edge2_info
  have HX := Lib.hid hx
  clear hx
  go_enter Try.func28, Try.ntmps28
  go_wp2
  go_loopw [3, 4] (fun so i wr => ∃ k : Nat, k ≤ n ∧ i = .int .i64 k ∧ Hid (wr.ownsRow w.heap.size 46 edgeC.sz so k (edgeC.all (turnL (l.take k)))) ∧ Hid (Below w.heap.size w wr)) (fun _ i _ => n - (intOf i).toNat)
  case atStart => exact ⟨0, by omega, rfl, Lib.hid (World.ownsRow_nil _ _ _ _), Lib.hid (Below.refl _ _)⟩
  case round =>
    obtain ⟨k, hkn, rfl, HO, HB⟩ := hrel
    have k0 : (0 : Int) ≤ (k : Int) := by omega
    by_cases hlt : k < n
    · have hlt' : (k : Int) < (n : Int) := by omega
      obtain ⟨b, o, hA, _⟩ := HX.out.at_ hlt
      subst hA
      have HXW := Lib.hid (HX.out.stays HB.out)
      have HST := Lib.hid (turn_take HX.out.1 hlt)
      have hS := edge_cells (HXW.out.stays (Below.refl _ _).drew) hlt
      have hS2 := fun o => edge_cells (HXW.out.stays ((al1 wr o).drew)) hlt
      go_wp2_with fail
      go_region_held3 (fun u => u.cell? ⟨b, o + k * 3, none⟩ = some (.int .i64 (ge l k).src) ∧ u.cell? ⟨b, o + k * 3 + 1, none⟩ = some (.int .i64 (ge l k).dst) ∧ u.cell? ⟨b, o + k * 3 + 2, none⟩ = some (.int .i64 (ge l k).wt)) ((first | exact hS | exact hS2 _ | exact hS8)) ((first | (refine step_append_own rfl (.tmp 11) (.tmp 28) 22 rfl w.heap.size 46 i0 (.agg #[.int .i64 0, .int .i64 0, .int .i64 0]) edgeC.sz 24 Try.underlying22 hi hz0 hz1 hz2 rfl (by decide) _ k (edgeC.all (turnL (l.take k))) (by simp [Act.eval]) (show (World.alloc wr.drew _).ownsRow _ _ _ _ _ _ from (HO.out.alloc _)) ⟨wr.heap.size, 0, none⟩ 1 1 (edgeC.cs (turnE (ge l k))) (by simp [Act.eval]) rfl (cs_new edgeC wr.drew (turnE (ge l k)) _ _ rfl) (edgeC.one _) (by unfold maxLen; omega) (by omega) (by have := HB.out.size; simp; omega) ?_; intro v8 w8 hown8 hg8 _; have HB8 := Lib.hid (below_app (HB.out.drew) (show w.heap.size ≤ wr.drew.heap.size from HB.out.size) (Nat.le_refl _) (show wr.drew.ownsRow _ _ _ _ _ _ from HO.out) hg8); have HO8 := Lib.hid hown8; have hS8 := edge_cells (HX.out.stays HB8.out) hlt; clear hown8 hg8)))
      all_goals
        have HO9 : Hid (w8.ownsRow w.heap.size 46 edgeC.sz v8 (k + 1) (edgeC.all (turnL (l.take (k + 1))))) := Lib.hid (by rw [HST.out, edgeC.all_app, edgeC.all_one]; exact HO8.out)
        go_wp2
        go_roundw
        case rel => exact ⟨k + 1, by omega, by go_num, HO9, HB8⟩
        case measure => simp [intOf]; omega
    · obtain rfl : k = n := by omega
      have hd0 : ¬ ((k : Int) < (k : Int)) := by omega
      have HEND := Lib.hid ((by rw [List.take_of_length_le (by rw [HX.out.1]; omega)] : turnL (l.take k) = turnL l))
      go_wp2
      go_ret
      exact ⟨_, rfl, by rw [← HEND.out]; have := HX.out.1; rw [turnL_len, List.length_take, Nat.min_eq_left (by omega)]; exact HO.out, HB.out⟩
end Go.Proofs.Ytabhinmodnmllaa
