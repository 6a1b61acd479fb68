/-
  The program's FormatModes: a loop over the iterator of a set. Printed by gen/rth.py.
-/
import Derived.Test.YtokjkllfkjiaiaaDoorRtG
import Derived.RangeFuncBox
import Derived.RangeFuncNested
import Derived.RangeFuncBound
import Derived.RangeFuncCalls
import Derived.RangeFuncLeaves
import Derived.Shelf.Abstract
import Derived.Shelf.RegionOpen
import Derived.WalkKit
import Derived.OwnWalkIn
import Derived.TacticsInMore
import Derived.LoopNIn
import Derived.LoopIn
import Derived.BigRegionIn
import Derived.Maps.AppendAt
namespace Go.Proofs.YtokjkllfkjiaiaaDoor
open Go.RowKit Go.Shelf
open Bs (U64 oneN hasB)
attribute [local go_sem] Oper.semAt_some

theorem has_lt {s m : Nat} (h : s < 256) (hb : hasB s m = true) : m < 8 := by
  by_cases e : m < 8
  · exact e
  · rw [Bs.hasB_nat, Nat.testBit_lt_two_pow (Nat.lt_of_lt_of_le h (show 2 ^ 8 ≤ 2 ^ m from Nat.pow_le_pow_right (by omega) (by omega))), Bool.and_false] at hb
    cases hb
/-- the modes of a set below k -/
def listF (s : Nat) : Nat → List (Fin 8)
  | 0 => []
  | k + 1 => if h : k < 8 then (if hasB s k = true then listF s k ++ [⟨k, h⟩] else listF s k) else listF s k
theorem listF_miss {s m : Nat} (h : hasB s m = false) : listF s (m + 1) = listF s m := by
  rw [listF]
  split
  · rw [if_neg (by simp [h])]
  · rfl
theorem listF_hit {s m : Nat} (h8 : m < 8) (h : hasB s m = true) : listF s (m + 1) = listF s m ++ [⟨m, h8⟩] := by rw [listF, dif_pos h8, if_pos h]
theorem listF_len (s : Nat) : ∀ k, (listF s k).length ≤ k
  | 0 => by simp [listF]
  | k + 1 => by
    have := listF_len s k
    rw [listF]
    split
    · split
      · simp; omega
      · omega
    · omega
theorem listF_prefix (s : Nat) (m : Nat) : ∀ k, m ≤ k → listF s m <+: listF s k
  | 0, h => by obtain rfl : m = 0 := by omega
               exact List.prefix_refl _
  | k + 1, h => by
    by_cases e : m = k + 1
    · subst e; exact List.prefix_refl _
    · have := listF_prefix s m k (by omega)
      rw [listF]
      split
      · split
        · exact this.trans (List.prefix_append _ _)
        · exact this
      · exact this
/-- the text so far -/
def foldF (l : List (Fin 8)) : ByteArray := l.foldl (fun u x => addM u x.val) ByteArray.empty
theorem fold_snoc (l : List (Fin 8)) (x : Fin 8) : foldF (l ++ [x]) = addM (foldF l) x.val := by simp [foldF, List.foldl_append]
theorem fold_to (s : Nat) : ∀ k, k ≤ 8 → foldF (listF s k) = fmtTo s k
  | 0, _ => rfl
  | k + 1, h => by
    cases hb : hasB s k
    · rw [listF_miss hb, fmt_miss hb, fold_to s k (by omega)]
    · rw [listF_hit (by omega) hb, fmt_hit hb, fold_snoc, fold_to s k (by omega)]
theorem fold_all {s : Nat} (_hs : s < 256) : foldF (listF s 64) = fmtTo s 8 := by
  have : ∀ k, 8 ≤ k → listF s k = listF s 8 := by
    intro k
    induction k with
    | zero => intro h; omega
    | succ k ih =>
      intro h
      by_cases e : k + 1 = 8
      · rw [e]
      · rw [listF, dif_neg (by omega)]
        exact ih (by omega)
  rw [this 64 (by omega)]
  exact fold_to s 8 (by omega)
theorem fold_size' : ∀ (l : List (Fin 8)) (u : ByteArray), (l.foldl (fun u (x : Fin 8) => addM u x.val) u).size ≤ u.size + 10 * l.length
  | [], _ => Nat.le_refl _
  | x :: l, u => by
    have h1 := fold_size' l (addM u x.val)
    have h2 := add_size u x.isLt
    rw [List.foldl_cons, List.length_cons]
    omega
theorem fold_size (l : List (Fin 8)) : (foldF l).size ≤ 10 * l.length := by
  have := fold_size' l ByteArray.empty
  have h : ByteArray.empty.size = 0 := rfl
  unfold foldF
  omega

/-- the box in which the iterator keeps its set is as it was -/
def KeepsBox (Bn s : Nat) (W W' : World) : Prop := Boxed W Bn 32 (.int .u64 s) → Boxed W' Bn 32 (.int .u64 s)
theorem KeepsBox.refl (Bn s : Nat) (W : World) : KeepsBox Bn s W W := fun h => h
theorem keepsBox_t {Bn s : Nat} {A B C : World} (h : KeepsBox Bn s A B) (k : KeepsBox Bn s B C) : KeepsBox Bn s A C := fun x => k (h x)
theorem keepsBox_b {Bn s : Nat} {w : World} (hn : Bn < w.heap.size) (W : World) (l : Nat) (o o' : Obj) (hl : w.heap.size ≤ l) (_ : W.heap[l]? = some o) (_ : o.isCells = false) (_ : o.isWalk = false) : KeepsBox Bn s W (W.putObj l o') :=
  fun h => (World.putObj_heap_other (by omega)).trans h

set_option maxRecDepth 100000 in
set_option maxHeartbeats 1000000 in
theorem all1_in (n : Nat) (hn : 2 ≤ n) (l Bn : Nat) (s : Nat) (hs : U64 s) (hs8 : s < 256) (J Jx : List (Fin 8) → World → Prop)
    (hY : ∀ pre x W, J pre W → pre.length < 64 → YieldAt Fence.wide (n - 1) Tryd.prog l #[.int .i64 (x.val : Nat)] W fun e W' =>
      (e = .returned (.bool true) ∧ J (pre ++ [x]) W' ∧ KeepsBox Bn s W W') ∨ (e = .returned (.bool false) ∧ Jx (pre ++ [x]) W'))
    (W : World) (hBn : Boxed W Bn 32 (.int .u64 s)) (h0 : J [] W) :
    CallsIn Fence.wide n Tryd.prog 38 #[.func (.yield l) #[] #[], .pointer (some ⟨Bn, 0, none⟩)] W fun e W' => (∃ v, e = .returned v) ∧
      ((∃ ys, ys = listF s 64 ∧ J ys W') ∨ (∃ pre, pre <+: listF s 64 ∧ Jx pre W')) := by
  have h18 : Fence.wide.fn 30 := trivial
  have h1 : 1 ≤ n := by omega
  refine callsIn_of_wp Tryd.func38 rfl trivial ?_ rfl
  simp only [Tryd.ntmps38, List.size_toArray, List.length_cons, List.length_nil, Nat.reduceAdd, Nat.reduceSub, Array.replicate_succ, Array.replicate_zero, List.push_toArray, List.append_toArray, List.nil_append, List.cons_append]
  gi_wp2
  gi_loopw [4] (fun k wr => ∃ m : Nat, m ≤ 64 ∧ k = .int .i64 m ∧ Boxed wr Bn 32 (.int .u64 s) ∧ J (listF s m) wr) (fun k _ => 64 - (intOf k).toNat)
  case atStart => exact ⟨0, by omega, rfl, hBn, h0⟩
  case round =>
    obtain ⟨m, hm, rfl, hbx, hJ⟩ := hrel
    have hc := hbx.cell
    by_cases hlt : m < 64
    · cases hb : hasB s m
      · have hm1 := listF_miss hb
        gi_wp2_with (gi_at_call 30; refine (callsIn_wide.2 (has_any _ _ _ hs)).mono ?_; rintro e w' ⟨rfl, rfl⟩)
        refine ⟨fun _ h => (by cases h), ?_⟩
        gi_wp2
        go_roundw
        case rel => exact ⟨m + 1, by omega, by go_num, hbx, by rw [hm1]; exact hJ⟩
        case measure => simp [intOf]; omega
      · have hm8 := has_lt hs8 hb
        have hm1 := listF_hit hm8 hb
        have hll := listF_len s m
        obtain ⟨fn, tmps, assign, body, hy, hR⟩ := hY (listF s m) ⟨m, hm8⟩ wr hJ (by omega)
        gi_wp2_with (gi_at_call 30; refine (callsIn_wide.2 (has_any _ _ _ hs)).mono ?_; rintro e w' ⟨rfl, rfl⟩)
        refine hR.mono ?_
        rintro e W3 (⟨rfl, hJ3, hk3⟩ | ⟨rfl, hJx3⟩)
        · have hc3 := hk3 hbx
          gi_wp2
          go_roundw
          case rel => exact ⟨m + 1, by omega, by go_num, hc3, by rw [hm1]; exact hJ3⟩
          case measure => simp [intOf]; omega
        · gi_wp2
          refine bodyPost_ret (results_none rfl _ _ _) rfl ?_
          exact ⟨⟨_, rfl⟩, .inr ⟨listF s m ++ [⟨m, hm8⟩], by rw [← hm1]; exact listF_prefix s (m + 1) 64 (by omega), hJx3⟩⟩
    · gi_wp2
      go_end0
      obtain rfl : m = 64 := by omega
      exact ⟨⟨_, rfl⟩, .inl ⟨listF s 64, rfl, hJ⟩⟩
set_option maxHeartbeats 1000000 in
/-- s.All(): the receiver is boxed; the function value captures the box. -/
theorem all_in (n : Nat) (s : Nat) (w : World) :
    CallsIn Fence.wide n Tryd.prog 33 #[.int .u64 s] w fun e w' => e = .returned (.func (.func 38) #[] #[.pointer (some ⟨w.heap.size, 0, none⟩)]) ∧ w' = w.alloc (.cells #[.int .u64 s] 32) := by
  refine callsIn_of_wp Tryd.func33 rfl trivial ?_ rfl
  simp only [Tryd.ntmps33, List.size_toArray, List.length_cons, List.length_nil, Nat.reduceAdd, Nat.reduceSub, Array.replicate_succ, Array.replicate_zero, List.push_toArray, List.append_toArray, List.nil_append, List.cons_append]
  gi_wp2
  go_ret
  exact ⟨rfl, rfl⟩


/-- s.All() hands back a value that goes through the elements, in their order, or through a part of them -/
theorem all_stops (n : Nat) (hn : 2 ≤ n) (Bn : Nat) (s : Nat) (hs : U64 s) (hs8 : s < 256) (w : World) (hb : Boxed w Bn 32 (.int .u64 s)) :
    SeqStopsK Fence.wide n Tryd.prog 38 #[.pointer (some ⟨Bn, 0, none⟩)] (fun x : Fin 8 => #[Value.int .i64 (x.val : Nat)]) (KeepsBox Bn s) (fun ys => ys = listF s 64) (fun pre => pre <+: listF s 64) 64 w := fun l J Jx W hW _ _ hY h0 =>
  all1_in n hn l Bn s hs hs8 J Jx hY W ((hW.block Bn hb.lt).trans hb) h0

set_option maxRecDepth 100000 in
set_option maxHeartbeats 2000000 in
theorem fmt_in (n : Nat) (w : World) (h0 : n ≠ 0) (h1 : n ≤ 255) (hN : NamesAt w) :
    CallsIn Fence.wide 9 Tryd.prog 18 #[.int .i64 n] w fun e w' => e = .returned (.tuple #[.string (fmtTo n 8), .int .i64 0]) ∧ Below w.heap.size w w' := by
  have h11 : (1 : Nat) ≤ 9 := by omega
  have hA : Fence.wide.fn 33 := trivial
  have hu : U64 n := by unfold U64; omega
  have hn0 : ((n : Int) == 0) = false := beq_eq_false_iff_ne.2 (by omega)
  have hw64 := w64_eq (n : Int)
  rw [w64_small (n := (n : Int)) (by omega) (by omega), Int.toNat_natCast] at hw64
  have l0 : ¬ (n : Int) < 0 := by omega
  have l1 : ¬ (255 : Int) < (n : Int) := by omega
  refine callsIn_of_wp_marks Tryd.func18 rfl trivial ?_ rfl
  simp only [Tryd.ntmps18, List.size_toArray, List.length_cons, List.length_nil, Nat.reduceAdd, Nat.reduceSub, Array.replicate_succ, Array.replicate_zero, List.push_toArray, List.append_toArray, List.nil_append, List.cons_append]
  gi_wp2_with (gi_at_call 33; refine (all_in _ _ _).mono ?_; rintro e w' ⟨rfl, rfl⟩)
  have bO := Boxed.new w 9 (.string { data := #[] })
  have bN := Boxed.new (w.alloc (.cells #[.string { data := #[] }] 9)) 32 (.int .u64 n)
  rw [World.size_alloc] at bN
  have hB0 : Below w.heap.size w ((w.alloc (.cells #[.string { data := #[] }] 9)).alloc (.cells #[.int .u64 n] 32)) := ((Below.refl _ w).alloc (Nat.le_refl _) _).alloc (by simp) _
  refine wpIn_rangeFunc_ownG rfl h11 (gf := 38) (lb := #[.pointer (some ⟨w.heap.size + 1, 0, none⟩)]) rfl trivial (enters_of Tryd.func38 (by kernel_rfl) rfl)
    (all_stops 8 (by omega) (w.heap.size + 1) n hu (by omega) _ bN) keepsBox_t (keepsBox_b (by simp)) (Below.refl _ _) (fun _ => rfl)
    (fun pre W => Boxed W w.heap.size 9 (.string (foldF pre)) ∧ Below w.heap.size w W)
    (fun _ _ _ => False)
    (OwnFrom.and (Own.from (boxed_own _ _ (fun pre : List (Fin 8) => .string (foldF pre))) _) (ownFrom_below (Nat.le_refl _) (by simp; omega)))
    (fun _ _ _ _ _ hs _ _ => hs)
    ⟨bO.alloc _, hB0⟩
    (fun x => { tmps := #[.int .i64 n, undef, .string { data := #[] }, .int .i64 0, .pointer (some ⟨w.heap.size, 0, none⟩), .int .i64 (x.val : Nat), .int .i64 n, .bool false, .bool false, .int .i64 n, .bool false, .bool false, .int .i64 n, .bool false, .int .i64 n, .int .u64 n, .func (.func 38) #[] #[.pointer (some ⟨w.heap.size + 1, 0, none⟩)], .int .i64 (x.val : Nat), undef, undef, undef, undef, undef, undef, undef, undef, undef, undef], defers := [] }) ?assign ?body ?done ?stop
  case assign =>
    intro l x W K hK
    gi_wp2
    exact hK
  case body =>
    rintro l pre x W ⟨hv, hB⟩ hlt
    have hNW := hN.stays hB
    obtain ⟨x, hx8⟩ := x
    have cn := hNW x hx8
    have x0 : (0 : Int) ≤ (x : Int) := by omega
    have x8 : (x : Int) < 8 := by omega
    have hfs := fold_size pre
    have hns := name_size hx8
    have HFS := Lib.hid (fold_snoc pre ⟨x, hx8⟩)
    obtain ⟨u, hu2⟩ : ∃ u, u = foldF pre := ⟨_, rfl⟩
    rw [← hu2] at hv hfs HFS
    clear hu2 hNW
    have c := hv.cell
    have f := hv.frozen
    cases hz : u.toList.isEmpty
    · have HA := Lib.hid (addM_more (m := x) hz)
      have hz1 : (!u.toList.isEmpty) = true := by rw [hz]; rfl
      have c2 := (hv.set (.string (u ++ plusS))).cell
      have f2 := (hv.set (.string (u ++ plusS))).frozen
      have hss : ¬ 9223372036854775807 < u.size + 1 := by omega
      have hss2 : ¬ 9223372036854775807 < u.size + 1 + (nameOf x).size := by omega
      have hss3 : ¬ 9223372036854775807 < (u ++ plusS).size + (nameOf x).size := by
        have : (u ++ plusS).size = u.size + 1 := ByteArray.size_append
        omega
      have hb0 : 0 < w.heap.size := cell?_block_lt (hN 0 (by omega))
      have cn2 : (W.setCell ⟨w.heap.size, 0, none⟩ (.string (u ++ plusS))).cell? ⟨0, x, none⟩ = some (.string (nameOf x)) := (World.cell?_setCell_other W ⟨w.heap.size, 0, none⟩ ⟨0, x, none⟩ _ (fun e => by injection e with e1; omega)).trans cn
      have hbn : ¬ w.heap.size = 0 := by omega
      gi_wp2
      gi_region
      all_goals
        refine ⟨(((KeepsOthers.setCell _ _ _).trans (KeepsOthers.setCell _ _ _)).trans (KeepsOthers.drew _)).from _, fun hb => (hb.other (by omega) _).other (by omega) _, ?_, ((hB.setCell (p := ⟨w.heap.size, 0, none⟩) (Nat.le_refl _) _).setCell (p := ⟨w.heap.size, 0, none⟩) (Nat.le_refl _) _).drew⟩
        rw [HFS.out, HA.out]
        exact (hv.set _).set _
    · have HA := Lib.hid (addM_first (m := x) hz)
      have hz1 : (!u.toList.isEmpty) = false := by rw [hz]; rfl
      have hss : ¬ 9223372036854775807 < u.size + (nameOf x).size := by omega
      gi_wp2
      gi_region
      all_goals
        refine ⟨((KeepsOthers.setCell _ _ _).trans (KeepsOthers.drew _)).from _, fun hb => hb.other (by omega) _, ?_, (hB.setCell (p := ⟨w.heap.size, 0, none⟩) (Nat.le_refl _) _).drew⟩
        rw [HFS.out, HA.out]
        exact hv.set _
  case done =>
    rintro D ys W hD rfl ⟨hv, hB⟩ hK
    have hc := hv.cell
    gi_wp2
    refine ⟨by simp, .inl ⟨_, _, rfl, run_takeDeferred hK, ?_⟩⟩
    refine ⟨_, results_tmp2 rfl _ _ _, ?_, hB.trans (belowK_b (w := w) (Nat.le_refl _) W D _ _ (by simp at hD; omega) hK rfl rfl)⟩
    rw [← fold_all (show n < 256 by omega)]
    rfl
  case stop =>
    rintro D c pre W _ _ h _
    exact h.elim
theorem fmt_any (m : Int) (w : World) (hN : NamesAt w) : Calls Tryd.prog 18 #[.int .i64 m] w fun e w' => e = .returned (.tuple #[.string (fmtS m), .int .i64 (fmtE m)]) ∧ Below w.heap.size w w' := by
  by_cases h0 : m < 0
  · have H := Lib.hid (fmt_low h0)
    go_enter Tryd.func18, Tryd.ntmps18
    go_wp2
    go_ret2
    exact ⟨ret_si H.out.1.symm H.out.2.symm, Below.refl _ _⟩
  by_cases h1 : 255 < m
  · have H := Lib.hid (fmt_high h1)
    go_enter Tryd.func18, Tryd.ntmps18
    go_wp2
    go_ret2
    exact ⟨ret_si H.out.1.symm H.out.2.symm, Below.refl _ _⟩
  by_cases hz : m = 0
  · subst hz
    have H := Lib.hid fmt_zero
    go_enter Tryd.func18, Tryd.ntmps18
    go_wp2
    go_ret2
    exact ⟨ret_si H.out.1.symm H.out.2.symm, Below.refl _ _⟩
  obtain ⟨n, rfl⟩ : ∃ n : Nat, m = (n : Int) := ⟨m.toNat, by omega⟩
  have := callsIn_wide.1 (fmt_in n w (by omega) (by omega) hN)
  rw [(fmt_some (by omega) (by omega)).1, (fmt_some (by omega) (by omega)).2]
  exact this
end Go.Proofs.YtokjkllfkjiaiaaDoor
