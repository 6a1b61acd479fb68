/-
  The walks of the statements on comparisons and inserts.
-/
import Derived.Test.YtgcngipbjkmdoaaWkF
namespace Go.Proofs.Ytgcngipbjkmdoaa
open Go.RowKit
open Vec (V vi leV eqV domV ltV cmpV covV putV frontV mergeV withinV)

def Boxed (w : World) (b : Nat) (x : V) : Prop := VBox w b x ∧ b < w.heap.size
theorem Boxed.stays {w w' : World} {b : Nat} {x : V} (h : Boxed w b x) (hb : Below w.heap.size w w') : Boxed w' b x :=
  ⟨fun j hj => (hb.cell (p := ⟨b, j, none⟩) h.2).trans (h.1 j hj), Nat.lt_of_lt_of_le h.2 hb.size⟩
theorem Boxed.cells {w : World} {b : Nat} {x : V} (h : Boxed w b x) : w.cell? ⟨b, 0, none⟩ = some (.int .i64 (vi x 0)) ∧ w.cell? ⟨b, 1, none⟩ = some (.int .i64 (vi x 1)) ∧ w.cell? ⟨b, 2, none⟩ = some (.int .i64 (vi x 2)) ∧ w.cell? ⟨b, 3, none⟩ = some (.int .i64 (vi x 3)) :=
  ⟨h.1 0 (by omega), h.1 1 (by omega), h.1 2 (by omega), h.1 3 (by omega)⟩
/-- the cells of a box, in every world above wo -/
theorem sub_box {wo : World} {b : Nat} {v : V} (h : Boxed wo b v) :
    (∀ x : Sub wo, x.u.cell? ⟨b, 0, none⟩ = some (.int .i64 (vi v 0))) ∧ (∀ x : Sub wo, x.u.cell? ⟨b, 1, none⟩ = some (.int .i64 (vi v 1))) ∧ (∀ x : Sub wo, x.u.cell? ⟨b, 2, none⟩ = some (.int .i64 (vi v 2))) ∧ (∀ x : Sub wo, x.u.cell? ⟨b, 3, none⟩ = some (.int .i64 (vi v 3))) :=
  ⟨fun x => (h.stays x.h).cells.1, fun x => (h.stays x.h).cells.2.1, fun x => (h.stays x.h).cells.2.2.1, fun x => (h.stays x.h).cells.2.2.2⟩

theorem four_boxes (w : World) (a b p q : V) (ta tb tp tq : TypeId) :
    let W := ((((w.alloc (.cells #[.int .i64 (vi a 0), .int .i64 (vi a 1), .int .i64 (vi a 2), .int .i64 (vi a 3)] ta)).alloc (.cells #[.int .i64 (vi b 0), .int .i64 (vi b 1), .int .i64 (vi b 2), .int .i64 (vi b 3)] tb)).alloc (.cells #[.int .i64 (vi p 0), .int .i64 (vi p 1), .int .i64 (vi p 2), .int .i64 (vi p 3)] tp)).alloc (.cells #[.int .i64 (vi q 0), .int .i64 (vi q 1), .int .i64 (vi q 2), .int .i64 (vi q 3)] tq)).drew
    Boxed W w.heap.size a ∧ Boxed W (w.heap.size + 1) b ∧ Boxed W (w.heap.size + 1 + 1) p ∧ Boxed W (w.heap.size + 1 + 1 + 1) q ∧ Below w.heap.size w W := by
  have nw : ∀ (w : World) (x : V) (t : TypeId) (n : Nat), w.heap.size = n → Boxed (w.alloc (.cells #[.int .i64 (vi x 0), .int .i64 (vi x 1), .int .i64 (vi x 2), .int .i64 (vi x 3)] t)) n x := fun w x t n h => by
    subst h
    exact ⟨VBox.new w t x, by simp⟩
  have al : ∀ {w : World} {b : Nat} {x : V} (o : Obj), Boxed w b x → Boxed (w.alloc o) b x := fun o h => h.stays (balloc (Below.refl _ _) o (Nat.le_refl _))
  have dr : ∀ {w : World} {b : Nat} {x : V}, Boxed w b x → Boxed w.drew b x := fun h => h.stays (Below.refl _ _).drew
  have r := Nat.le_refl w.heap.size
  refine ⟨dr (al _ (al _ (al _ (nw _ _ _ _ rfl)))), dr (al _ (al _ (nw _ _ _ _ (by simp)))), dr (al _ (nw _ _ _ _ (by simp))), dr (nw _ _ _ _ (by simp)), ?_⟩
  exact (balloc (balloc (balloc (balloc (Below.refl _ w) _ r) _ r) _ r) _ r).drew

set_option maxHeartbeats 4000000 in
theorem compares_walk (x y : V) (w : World) :
    Calls Try.prog 3 #[.agg #[.int .i64 (vi x 0), .int .i64 (vi x 1), .int .i64 (vi x 2), .int .i64 (vi x 3)], .agg #[.int .i64 (vi y 0), .int .i64 (vi y 1), .int .i64 (vi y 2), .int .i64 (vi y 3)]] w fun e w' => e = .returned (.bool true) ∧ Below w.heap.size w w' := by
  have r := Nat.le_refl w.heap.size
  go_enter Try.func3, Try.ntmps3
  go_wp2
  go_region
  · obtain ⟨h0, h1, h2, h3, hb⟩ := four_boxes w x y x y 22 22 23 23
    generalize ((((w.alloc (.cells #[.int .i64 (vi x 0), .int .i64 (vi x 1), .int .i64 (vi x 2), .int .i64 (vi x 3)] 22)).alloc (.cells #[.int .i64 (vi y 0), .int .i64 (vi y 1), .int .i64 (vi y 2), .int .i64 (vi y 3)] 22)).alloc (.cells #[.int .i64 (vi x 0), .int .i64 (vi x 1), .int .i64 (vi x 2), .int .i64 (vi x 3)] 23)).alloc (.cells #[.int .i64 (vi y 0), .int .i64 (vi y 1), .int .i64 (vi y 2), .int .i64 (vi y 3)] 23)).drew = W at h0 h1 h2 h3 hb ⊢
    have hcs : (∀ z : Sub W, Calls Try.prog 9 #[.agg #[.int .i64 (vi x 0), .int .i64 (vi x 1), .int .i64 (vi x 2), .int .i64 (vi x 3)], .agg #[.int .i64 (vi y 0), .int .i64 (vi y 1), .int .i64 (vi y 2), .int .i64 (vi y 3)]] z.u fun e w'' => e = .returned (.bool (domV x y)) ∧ ∃ u : Sub W, w'' = u.u) ∧ (∀ z : Sub W, Calls Try.prog 10 #[.agg #[.int .i64 (vi x 0), .int .i64 (vi x 1), .int .i64 (vi x 2), .int .i64 (vi x 3)], .agg #[.int .i64 (vi y 0), .int .i64 (vi y 1), .int .i64 (vi y 2), .int .i64 (vi y 3)]] z.u fun e w'' => e = .returned (.bool (domV x y)) ∧ ∃ u : Sub W, w'' = u.u) ∧ (∀ z : Sub W, Calls Try.prog 11 #[.agg #[.int .i64 (vi x 0), .int .i64 (vi x 1), .int .i64 (vi x 2), .int .i64 (vi x 3)], .agg #[.int .i64 (vi y 0), .int .i64 (vi y 1), .int .i64 (vi y 2), .int .i64 (vi y 3)]] z.u fun e w'' => e = .returned (.int .i64 (cmpV x y)) ∧ ∃ u : Sub W, w'' = u.u) ∧ (∀ z : Sub W, Calls Try.prog 12 #[.agg #[.int .i64 (vi x 0), .int .i64 (vi x 1), .int .i64 (vi x 2), .int .i64 (vi x 3)], .agg #[.int .i64 (vi y 0), .int .i64 (vi y 1), .int .i64 (vi y 2), .int .i64 (vi y 3)]] z.u fun e w'' => e = .returned (.int .i64 (cmpV x y)) ∧ ∃ u : Sub W, w'' = u.u) ∧ (∀ z : Sub W, Calls Try.prog 13 #[] z.u fun e w'' => e = .returned (.bool true) ∧ ∃ u : Sub W, w'' = u.u) :=
      ⟨fun z => calls_sub (dom_any x y _), fun z => calls_sub (rdom_any x y _), fun z => calls_sub (cmp_any x y _), fun z => calls_sub (rcmp_any x y _), fun z => calls_sub (example_any _)⟩
    obtain ⟨k1, k2, k3, k4, k5⟩ := hcs
    obtain ⟨c0, c1, c2, c3⟩ := sub_box h0
    obtain ⟨d0, d1, d2, d3⟩ := sub_box h1
    obtain ⟨e0, e1, e2, e3⟩ := sub_box h2
    obtain ⟨f0, f1, f2, f3⟩ := sub_box h3
    clear h0 h1 h2 h3
    go_wp2
    refine wp_region_sub (wo := W) (by kernel_rfl) (by kernel_rfl) (Below.refl _ _) ?_
    repeat (go_big_quiet_step (first | exact k1 _ | exact k2 _ | exact k3 _ | exact k4 _ | exact k5 _))
    refine wpQuiet_nil ?_
    rintro _ ⟨⟨w2, hb2⟩, rfl⟩
    have HB := Lib.hid (bthen hb hb2 r)
    clear k1 k2 k3 k4 k5 c0 c1 c2 c3 d0 d1 d2 d3 e0 e1 e2 e3 f0 f1 f2 f3 hb hb2
    go_wp2
    go_ret
    exact ⟨rfl, HB.out⟩
  · obtain ⟨h0, h1, h2, h3, hb⟩ := four_boxes w x y y x 22 22 23 23
    generalize ((((w.alloc (.cells #[.int .i64 (vi x 0), .int .i64 (vi x 1), .int .i64 (vi x 2), .int .i64 (vi x 3)] 22)).alloc (.cells #[.int .i64 (vi y 0), .int .i64 (vi y 1), .int .i64 (vi y 2), .int .i64 (vi y 3)] 22)).alloc (.cells #[.int .i64 (vi y 0), .int .i64 (vi y 1), .int .i64 (vi y 2), .int .i64 (vi y 3)] 23)).alloc (.cells #[.int .i64 (vi x 0), .int .i64 (vi x 1), .int .i64 (vi x 2), .int .i64 (vi x 3)] 23)).drew = W at h0 h1 h2 h3 hb ⊢
    have hcs : (∀ z : Sub W, Calls Try.prog 9 #[.agg #[.int .i64 (vi x 0), .int .i64 (vi x 1), .int .i64 (vi x 2), .int .i64 (vi x 3)], .agg #[.int .i64 (vi y 0), .int .i64 (vi y 1), .int .i64 (vi y 2), .int .i64 (vi y 3)]] z.u fun e w'' => e = .returned (.bool (domV x y)) ∧ ∃ u : Sub W, w'' = u.u) ∧ (∀ z : Sub W, Calls Try.prog 10 #[.agg #[.int .i64 (vi x 0), .int .i64 (vi x 1), .int .i64 (vi x 2), .int .i64 (vi x 3)], .agg #[.int .i64 (vi y 0), .int .i64 (vi y 1), .int .i64 (vi y 2), .int .i64 (vi y 3)]] z.u fun e w'' => e = .returned (.bool (domV x y)) ∧ ∃ u : Sub W, w'' = u.u) ∧ (∀ z : Sub W, Calls Try.prog 11 #[.agg #[.int .i64 (vi x 0), .int .i64 (vi x 1), .int .i64 (vi x 2), .int .i64 (vi x 3)], .agg #[.int .i64 (vi y 0), .int .i64 (vi y 1), .int .i64 (vi y 2), .int .i64 (vi y 3)]] z.u fun e w'' => e = .returned (.int .i64 (cmpV x y)) ∧ ∃ u : Sub W, w'' = u.u) ∧ (∀ z : Sub W, Calls Try.prog 12 #[.agg #[.int .i64 (vi x 0), .int .i64 (vi x 1), .int .i64 (vi x 2), .int .i64 (vi x 3)], .agg #[.int .i64 (vi y 0), .int .i64 (vi y 1), .int .i64 (vi y 2), .int .i64 (vi y 3)]] z.u fun e w'' => e = .returned (.int .i64 (cmpV x y)) ∧ ∃ u : Sub W, w'' = u.u) ∧ (∀ z : Sub W, Calls Try.prog 13 #[] z.u fun e w'' => e = .returned (.bool true) ∧ ∃ u : Sub W, w'' = u.u) :=
      ⟨fun z => calls_sub (dom_any x y _), fun z => calls_sub (rdom_any x y _), fun z => calls_sub (cmp_any x y _), fun z => calls_sub (rcmp_any x y _), fun z => calls_sub (example_any _)⟩
    obtain ⟨k1, k2, k3, k4, k5⟩ := hcs
    obtain ⟨c0, c1, c2, c3⟩ := sub_box h0
    obtain ⟨d0, d1, d2, d3⟩ := sub_box h1
    obtain ⟨e0, e1, e2, e3⟩ := sub_box h2
    obtain ⟨f0, f1, f2, f3⟩ := sub_box h3
    clear h0 h1 h2 h3
    go_wp2
    refine wp_region_sub (wo := W) (by kernel_rfl) (by kernel_rfl) (Below.refl _ _) ?_
    repeat (go_big_quiet_step (first | exact k1 _ | exact k2 _ | exact k3 _ | exact k4 _ | exact k5 _))
    refine wpQuiet_nil ?_
    rintro _ ⟨⟨w2, hb2⟩, rfl⟩
    have HB := Lib.hid (bthen hb hb2 r)
    clear k1 k2 k3 k4 k5 c0 c1 c2 c3 d0 d1 d2 d3 e0 e1 e2 e3 f0 f1 f2 f3 hb hb2
    go_wp2
    go_ret
    exact ⟨rfl, HB.out⟩
end Go.Proofs.Ytgcngipbjkmdoaa
