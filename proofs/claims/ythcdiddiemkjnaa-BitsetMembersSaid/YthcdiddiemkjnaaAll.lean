/-
  The iterator of a set: what it hands to a loop's body, in order, until the body says 'no more'.
-/
import Derived.RangeFuncBox
import Derived.RangeFuncNested
import Derived.RangeFuncBound
import Derived.RangeFuncCalls
import Derived.RangeFuncLeaves
import Derived.Shelf.Abstract
import Derived.Shelf.RegionOpen
import Derived.WalkKit
import Derived.OwnWalkIn
import Derived.TacticsInMore
import Derived.LoopNIn
import Derived.LoopIn
import Derived.Maps.AppendAt
import Derived.Test.YthcdiddiemkjnaaList
namespace Go.Proofs.Ythcdiddiemkjnaa
open Go.RowKit Go.Shelf
open Bs (U64 oneN hasB listTo listN)
attribute [local go_sem] Oper.semAt_some

/-- the box in which the iterator keeps its set is as it was -/
def KeepsBox (Bn s : Nat) (W W' : World) : Prop := Boxed W Bn 25 (.int .u64 s) → Boxed W' Bn 25 (.int .u64 s)
theorem KeepsBox.refl (Bn s : Nat) (W : World) : KeepsBox Bn s W W := fun h => h
theorem keepsBox_t {Bn s : Nat} {A B C : World} (h : KeepsBox Bn s A B) (k : KeepsBox Bn s B C) : KeepsBox Bn s A C := fun x => k (h x)
theorem keepsBox_b {Bn s : Nat} {w : World} (hn : Bn < w.heap.size) (W : World) (l : Nat) (o o' : Obj) (hl : w.heap.size ≤ l) (_ : W.heap[l]? = some o) (_ : o.isCells = false) (_ : o.isWalk = false) : KeepsBox Bn s W (W.putObj l o') :=
  fun h => (World.putObj_heap_other (by omega)).trans h

set_option maxRecDepth 100000 in
set_option maxHeartbeats 1000000 in
theorem all1_in (n : Nat) (hn : 2 ≤ n) (l Bn : Nat) (s : Nat) (hs : U64 s) (J Jx : List Int → World → Prop)
    (hY : ∀ pre x W, J pre W → pre.length < 64 → YieldAt Fence.wide (n - 1) Try.prog l #[.int .i64 x] W fun e W' =>
      (e = .returned (.bool true) ∧ J (pre ++ [x]) W' ∧ KeepsBox Bn s W W') ∨ (e = .returned (.bool false) ∧ Jx (pre ++ [x]) W'))
    (W : World) (hBn : Boxed W Bn 25 (.int .u64 s)) (h0 : J [] W) :
    CallsIn Fence.wide n Try.prog 39 #[.func (.yield l) #[] #[], .pointer (some ⟨Bn, 0, none⟩)] W fun e W' => (∃ v, e = .returned v) ∧
      ((∃ ys, ys = listN s ∧ J ys W') ∨ (∃ pre, pre <+: listN s ∧ Jx pre W')) := by
  have h18 : Fence.wide.fn 18 := trivial
  have h1 : 1 ≤ n := by omega
  refine callsIn_of_wp Try.func39 rfl trivial ?_ rfl
  simp only [Try.ntmps39, List.size_toArray, List.length_cons, List.length_nil, Nat.reduceAdd, Nat.reduceSub, Array.replicate_succ, Array.replicate_zero, List.push_toArray, List.append_toArray, List.nil_append, List.cons_append]
  gi_wp2
  gi_loopw [4] (fun k wr => ∃ m : Nat, m ≤ 64 ∧ k = .int .i64 m ∧ Boxed wr Bn 25 (.int .u64 s) ∧ J (listTo s m) wr) (fun k _ => 64 - (intOf k).toNat)
  case atStart => exact ⟨0, by omega, rfl, hBn, h0⟩
  case round =>
    obtain ⟨m, hm, rfl, hbx, hJ⟩ := hrel
    have hc := hbx.cell
    by_cases hlt : m < 64
    · cases hb : hasB s m
      · have hm1 := Bs.listTo_miss hb
        gi_wp2_with (gi_at_call 18; refine (callsIn_wide.2 (has_any _ _ _ hs)).mono ?_; rintro e w' ⟨rfl, rfl⟩)
        refine ⟨fun _ h => (by cases h), ?_⟩
        gi_wp2
        go_roundw
        case rel => exact ⟨m + 1, by omega, by go_num, hbx, by rw [hm1]; exact hJ⟩
        case measure => simp [intOf]; omega
      · have hm1 := Bs.listTo_hit hb
        have hll := Bs.listTo_len s m
        obtain ⟨fn, tmps, assign, body, hy, hR⟩ := hY (listTo s m) m wr hJ (by omega)
        gi_wp2_with (gi_at_call 18; refine (callsIn_wide.2 (has_any _ _ _ hs)).mono ?_; rintro e w' ⟨rfl, rfl⟩)
        refine hR.mono ?_
        rintro e W3 (⟨rfl, hJ3, hk3⟩ | ⟨rfl, hJx3⟩)
        · have hc3 := hk3 hbx
          gi_wp2
          go_roundw
          case rel => exact ⟨m + 1, by omega, by go_num, hc3, by rw [hm1]; exact hJ3⟩
          case measure => simp [intOf]; omega
        · gi_wp2
          refine bodyPost_ret (results_none rfl _ _ _) rfl ?_
          exact ⟨⟨_, rfl⟩, .inr ⟨listTo s m ++ [(m : Int)], by rw [← hm1]; exact Bs.listTo_prefix s (m + 1) 64 (by omega), hJx3⟩⟩
    · gi_wp2
      go_end0
      obtain rfl : m = 64 := by omega
      exact ⟨⟨_, rfl⟩, .inl ⟨listTo s 64, rfl, hJ⟩⟩
set_option maxHeartbeats 1000000 in
/-- s.All(): the receiver is boxed; the function value captures the box. -/
theorem all_in (n : Nat) (s : Nat) (w : World) :
    CallsIn Fence.wide n Try.prog 36 #[.int .u64 s] w fun e w' => e = .returned (.func (.func 39) #[] #[.pointer (some ⟨w.heap.size, 0, none⟩)]) ∧ w' = w.alloc (.cells #[.int .u64 s] 25) := by
  refine callsIn_of_wp Try.func36 rfl trivial ?_ rfl
  simp only [Try.ntmps36, List.size_toArray, List.length_cons, List.length_nil, Nat.reduceAdd, Nat.reduceSub, Array.replicate_succ, Array.replicate_zero, List.push_toArray, List.append_toArray, List.nil_append, List.cons_append]
  gi_wp2
  go_ret
  exact ⟨rfl, rfl⟩

/-- s.All() hands back a value that goes through the elements, in their order, or through a part of them, where a round has said 'no more'. -/
theorem all_stops (n : Nat) (hn : 2 ≤ n) (Bn : Nat) (s : Nat) (hs : U64 s) (w : World) (hb : Boxed w Bn 25 (.int .u64 s)) :
    SeqStopsK Fence.wide n Try.prog 39 #[.pointer (some ⟨Bn, 0, none⟩)] (fun x : Int => #[Value.int .i64 x]) (KeepsBox Bn s) (fun ys => ys = listN s) (fun pre => pre <+: listN s) 64 w := fun l J Jx W hW _ _ hY h0 =>
  all1_in n hn l Bn s hs J Jx hY W ((hW.block Bn hb.lt).trans hb) h0
end Go.Proofs.Ythcdiddiemkjnaa
