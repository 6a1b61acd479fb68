/-
  List and Min of a set: loops over its iterator.
-/
import Derived.Test.YthcdiddiemkjnaaAll
namespace Go.Proofs.Ythcdiddiemkjnaa
open Go.RowKit Go.Shelf
open Bs (U64 oneN hasB listTo listN)
attribute [local go_sem] Oper.semAt_some

set_option maxRecDepth 100000 in
set_option maxHeartbeats 2000000 in
theorem list_in (s : Nat) (w : World) (hs : U64 s) :
    CallsIn Fence.wide 9 Try.prog 27 #[.int .u64 s] w fun e w' => MadeInts w (listN s) e w' := by
  have h1 : (1 : Nat) ≤ 9 := by omega
  have hA : Fence.wide.fn 36 := trivial
  obtain ⟨i0, hi, hz0, hz1, hz2⟩ := info_parts infoInt
  refine callsIn_of_wp_marks Try.func27 rfl trivial ?_ rfl
  simp only [Try.ntmps27, List.size_toArray, List.length_cons, List.length_nil, Nat.reduceAdd, Nat.reduceSub, Array.replicate_succ, Array.replicate_zero, List.push_toArray, List.append_toArray, List.nil_append, List.cons_append]
  gi_wp2_with (gi_at_call 36; refine (all_in _ _ _).mono ?_; rintro e w' ⟨rfl, rfl⟩)
  have bO := Boxed.new w 22 (.slice none 0 0)
  have bN := Boxed.new (w.alloc (.cells #[.slice none 0 0] 22)) 25 (.int .u64 s)
  rw [World.size_alloc] at bN
  have hB0 : Below w.heap.size w ((w.alloc (.cells #[.slice none 0 0] 22)).alloc (.cells #[.int .u64 s] 25)) := ((Below.refl _ w).alloc (Nat.le_refl _) _).alloc (by simp) _
  refine wpIn_rangeFunc_ownG rfl h1 (gf := 39) (lb := #[.pointer (some ⟨w.heap.size + 1, 0, none⟩)]) rfl trivial (enters_of Try.func39 (by kernel_rfl) rfl)
    (all_stops 8 (by omega) (w.heap.size + 1) s hs _ bN) keepsBox_t (keepsBox_b (by simp)) (Below.refl _ _) (fun _ => rfl)
    (fun pre W => (∃ v, Boxed W w.heap.size 22 v ∧ W.ownsRow w.heap.size 3 1 v pre.length (pre.map (Value.int .i64)) ∧ True) ∧ Below w.heap.size w W)
    (fun _ _ _ => False)
    (OwnFrom.and (Own.from (holdsRow_own w.heap.size w.heap.size 22 3 1 (fun pre : List Int => pre.length) (fun pre => pre.map (Value.int .i64)) (fun _ _ => True)) _) (ownFrom_below (Nat.le_refl _) (by simp; omega)))
    (fun _ _ _ _ _ hs _ _ => hs)
    ⟨⟨_, bO.alloc _, World.ownsRow_nil _ _ _ _, trivial⟩, hB0⟩
    (fun x => { tmps := #[.int .u64 s, undef, .slice none 0 0, .pointer (some ⟨w.heap.size, 0, none⟩), .int .i64 x, .int .u64 s, .func (.func 39) #[] #[.pointer (some ⟨w.heap.size + 1, 0, none⟩)], .int .i64 x, undef, undef, undef, undef, undef], defers := [] }) ?assign ?body ?done ?stop
  case assign =>
    intro l x W K hK
    gi_wp2
    exact hK
  case body =>
    rintro l pre x W ⟨⟨v, hv, hrow, -⟩, hB⟩ hlt
    have hc := hv.cell
    have hsz := hB.size
    gi_wp2_with (gi_at_builtin; refine wpListIn_append_own _ rfl _ _ 22 rfl w.heap.size 3 i0 (.int .i64 0) 1 8 Try.underlying22 hi hz0 hz1 hz2 rfl (by decide) _ _ _ rfl (hrow.alloc _) ⟨W.heap.size, 0, none⟩ 1 1 [.int .i64 x] rfl rfl (cell_one_new _ _ _) (by simp [Value.oneCell']) (by unfold maxLen; omega) (by omega) (by simp; omega) ?_; intro v' w1 hown' hgrow _; obtain ⟨g', cap', rfl⟩ := ownsRow_succ hown'; obtain ⟨hv1, hv2, hr2, hk2, hb2⟩ := hv.appended (by decide) hrow hsz (Nat.le_refl _) hown' hgrow; have hc1 := hv1.cell; have hf1 := hv1.frozen)
    have hkb : KeepsBox (w.heap.size + 1) s W (w1.setCell ⟨w.heap.size, 0, none⟩ (.slice (some ⟨g', 0, none⟩) (pre.length + 1) cap')) := fun hb => (((hb.alloc _).kept hgrow (hb.not_row (by decide) hrow)).other (by omega) _)
    exact ⟨hk2.from _, hkb, ⟨_, hv2, by simpa using hr2, trivial⟩, hB.trans hb2⟩
  case done =>
    rintro D ys W hD rfl ⟨⟨v, hv, hrow, -⟩, hB⟩ hK
    have hc := hv.cell
    gi_wp2
    refine ⟨by simp, .inl ⟨_, _, rfl, run_takeDeferred hK, ?_⟩⟩
    exact ⟨_, results_tmp rfl _ _ _, MadeInts.mk (ownsRow_putObj hrow _ hK rfl) (hB.trans (belowK_b (w := w) (Nat.le_refl _) W D _ _ (by simp at hD; omega) hK rfl rfl))⟩
  case stop =>
    rintro D c pre W _ _ h _
    exact h.elim
theorem list_any (s : Nat) (w : World) (hs : U64 s) :
    Calls Try.prog 27 #[.int .u64 s] w fun e w' => MadeInts w (listN s) e w' := callsIn_wide.1 (list_in s w hs)

set_option maxRecDepth 100000 in
set_option maxHeartbeats 2000000 in
theorem min_in (s : Nat) (w : World) (hs : U64 s) :
    CallsIn Fence.wide 9 Try.prog 24 #[.int .u64 s] w fun e w' => e = .returned (.tuple #[.int .i64 (headOr (listN s)), .bool (some1 (listN s))]) ∧ Below w.heap.size w w' := by
  have h1 : (1 : Nat) ≤ 9 := by omega
  have hA : Fence.wide.fn 36 := trivial
  refine callsIn_of_wp_marks Try.func24 rfl trivial ?_ rfl
  simp only [Try.ntmps24, List.size_toArray, List.length_cons, List.length_nil, Nat.reduceAdd, Nat.reduceSub, Array.replicate_succ, Array.replicate_zero, List.push_toArray, List.append_toArray, List.nil_append, List.cons_append]
  gi_wp2_with (gi_at_call 36; refine (all_in _ _ _).mono ?_; rintro e w' ⟨rfl, rfl⟩)
  have bO := Boxed.new w 3 (.int .i64 0)
  have bP := Boxed.new (w.alloc (.cells #[.int .i64 0] 3)) 4 (.bool false)
  have bN := Boxed.new ((w.alloc (.cells #[.int .i64 0] 3)).alloc (.cells #[.bool false] 4)) 25 (.int .u64 s)
  rw [World.size_alloc] at bP
  rw [World.size_alloc, World.size_alloc] at bN
  have hB0 : Below w.heap.size w (((w.alloc (.cells #[.int .i64 0] 3)).alloc (.cells #[.bool false] 4)).alloc (.cells #[.int .u64 s] 25)) := (((Below.refl _ w).alloc (Nat.le_refl _) _).alloc (by simp) _).alloc (by simp; omega) _
  refine wpIn_rangeFunc_ownG rfl h1 (gf := 39) (lb := #[.pointer (some ⟨w.heap.size + 1 + 1, 0, none⟩)]) rfl trivial (enters_of Try.func39 (by kernel_rfl) rfl)
    (all_stops 8 (by omega) (w.heap.size + 1 + 1) s hs _ bN) keepsBox_t (keepsBox_b (by simp)) (Below.refl _ _) (fun _ => rfl)
    (fun pre W => (Boxed W w.heap.size 3 (.int .i64 0) ∧ Boxed W (w.heap.size + 1) 4 (.bool false)) ∧ pre = [] ∧ Below w.heap.size w W)
    (fun c pre W => (Boxed W w.heap.size 3 (.int .i64 (headOr pre)) ∧ Boxed W (w.heap.size + 1) 4 (.bool true)) ∧ (c = .ret ∧ pre.length = 1) ∧ Below w.heap.size w W)
    (OwnFrom.and (OwnFrom.and (Own.from (boxed_own _ _ (fun _ => .int .i64 0)) _) (Own.from (boxed_own _ _ (fun _ => .bool false)) _)) (OwnFrom.and (ownFrom_pure _ _) (ownFrom_below (Nat.le_refl _) (by simp; omega))))
    (fun c => OwnFrom.and (OwnFrom.and (Own.from (boxed_own _ _ (fun pre => .int .i64 (headOr pre))) _) (Own.from (boxed_own _ _ (fun _ => .bool true)) _)) (OwnFrom.and (ownFrom_pure _ _) (ownFrom_below (Nat.le_refl _) (by simp; omega))))
    ⟨⟨(bO.alloc _).alloc _, bP.alloc _⟩, rfl, hB0⟩
    (fun x => { tmps := #[.int .u64 s, undef, .pointer (some ⟨w.heap.size, 0, none⟩), .pointer (some ⟨w.heap.size + 1, 0, none⟩), .int .i64 x, .int .u64 s, .func (.func 39) #[] #[.pointer (some ⟨w.heap.size + 1 + 1, 0, none⟩)], .int .i64 x, undef], defers := [] }) ?assign ?body ?done ?stop
  case assign =>
    intro l x W K hK
    gi_wp2
    exact hK
  case body =>
    rintro l pre x W ⟨⟨b1, b2⟩, rfl, hB⟩ hlt
    have c1 := b1.cell
    have c2 := b2.cell
    have f1 := b1.frozen
    have f2 := b2.frozen
    gi_wp2
    exact ⟨((KeepsOthers.setCell _ _ _).trans (KeepsOthers.setCell _ _ _)).from _, ⟨(b1.set _).other (by omega) _, (b2.other (by omega) _).set _⟩, ⟨rfl, rfl⟩, (hB.setCell (p := ⟨w.heap.size, 0, none⟩) (Nat.le_refl _) _).setCell (p := ⟨w.heap.size + 1, 0, none⟩) (by simp) _⟩
  case done =>
    rintro D ys W hD rfl ⟨⟨b1, b2⟩, hnil, hB⟩ hK
    have c1 := b1.cell
    have c2 := b2.cell
    have f1 := b1.frozen
    have f2 := b2.frozen
    have hD2 : w.heap.size + 1 + 1 < D := by simp at hD; omega
    have hK2 := ((KeepsOthers.setCell W ⟨w.heap.size, 0, none⟩ (.int .i64 0)).trans (KeepsOthers.setCell _ ⟨w.heap.size + 1, 0, none⟩ (.bool false))).same D _ hK rfl
    have b1' := (b1.set (.int .i64 0)).other (show w.heap.size ≠ w.heap.size + 1 by omega) (.bool false)
    have b2' := (b2.other (show w.heap.size + 1 ≠ w.heap.size by omega) (.int .i64 0)).set (.bool false)
    have hB2 := (hB.setCell (p := ⟨w.heap.size, 0, none⟩) (Nat.le_refl _) (.int .i64 0)).setCell (p := ⟨w.heap.size + 1, 0, none⟩) (by simp) (.bool false)
    gi_wp2
    refine ⟨by simp, .inl ⟨_, _, rfl, run_takeDeferred hK2, ?_⟩⟩
    have b1p : Boxed (World.putObj _ D (.deferred none)) _ _ _ := (World.putObj_heap_other (by omega)).trans b1'
    have b2p : Boxed (World.putObj _ D (.deferred none)) _ _ _ := (World.putObj_heap_other (by omega)).trans b2'
    have c1p := b1p.cell
    have c2p := b2p.cell
    refine ⟨.tuple #[.int .i64 0, .bool false], by simp [results, Try.results24, go_sem, c1p, c2p], ?_, hB2.trans (belowK_b (w := w) (Nat.le_refl _) _ D _ _ (by omega) hK2 rfl rfl)⟩
    rw [hnil]
    rfl
  case stop =>
    rintro D c pre W hD hpre ⟨⟨b1, b2⟩, ⟨rfl, hl⟩, hB⟩ hK
    have c1 := b1.cell
    have c2 := b2.cell
    have hD2 : w.heap.size + 1 + 1 < D := by simp at hD; omega
    gi_wp2
    refine ⟨by simp, .inl ⟨_, _, rfl, run_takeDeferred hK, ?_⟩⟩
    have b1p : Boxed (World.putObj _ D (.deferred none)) _ _ _ := (World.putObj_heap_other (by omega)).trans b1
    have b2p : Boxed (World.putObj _ D (.deferred none)) _ _ _ := (World.putObj_heap_other (by omega)).trans b2
    have c1p := b1p.cell
    have c2p := b2p.cell
    refine ⟨.tuple #[.int .i64 (headOr pre), .bool true], by simp [results, Try.results24, go_sem, c1p, c2p], ?_, hB.trans (belowK_b (w := w) (Nat.le_refl _) _ D _ _ (by omega) hK rfl rfl)⟩
    obtain ⟨r, hr⟩ := hpre
    have e1 : headOr (listN s) = headOr pre := by rw [← hr]; simp [headOr, gi, List.getElem?_append_left (show 0 < pre.length by omega)]
    have e2 : some1 (listN s) = true := by rw [← hr]; simp [some1]; omega
    rw [e1, e2]
theorem min_any (s : Nat) (w : World) (hs : U64 s) :
    Calls Try.prog 24 #[.int .u64 s] w fun e w' => e = .returned (.tuple #[.int .i64 (headOr (listN s)), .bool (some1 (listN s))]) ∧ Below w.heap.size w w' := callsIn_wide.1 (min_in s w hs)
end Go.Proofs.Ythcdiddiemkjnaa
