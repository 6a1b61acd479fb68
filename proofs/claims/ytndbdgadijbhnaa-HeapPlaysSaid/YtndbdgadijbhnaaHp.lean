/-
  Pairs and nodes of a heap, how they lie in memory; the orders of the five modes.
-/
import Derived.Test.YtndbdgadijbhnaaRec2
import Derived.Test.YtndbdgadijbhnaaRows
import Derived.WalkSpells
import Derived.WalkLawsBesides
import Derived.Deep.QuietTactic
import Derived.BigQuiet
import Derived.IntWalk
import Derived.Shelf.Abstract
namespace Go.Proofs.Ytndbdgadijbhnaa
open Go.RowKit

/-- an element -/
structure Pair where
  /-- the key -/
  key : Int
  /-- the mark -/
  mark : Int
theorem Pair.eq {x y : Pair} (h1 : x.key = y.key) (h2 : x.mark = y.mark) : x = y := by
  cases x
  cases y
  simp at h1 h2
  subst h1 h2
  rfl
instance : DecidableEq Pair := fun x y => decidable_of_iff (x.key = y.key ∧ x.mark = y.mark) ⟨fun h => Pair.eq h.1 h.2, fun h => by subst h; exact ⟨rfl, rfl⟩⟩
/-- its cells -/
abbrev pa (x : Pair) : Array Value := #[.int .i64 x.key, .int .i64 x.mark]
/-- how a pair lies in memory -/
def pairC : Codec Pair where
  cs x := [.int .i64 x.key, .int .i64 x.mark]
  sz := 2
  d := ⟨0, 0⟩
  len _ := rfl
  one x u hu := by
    simp at hu
    rcases hu with rfl | rfl <;> rfl
/-- pair k -/
def gp (xs : List Pair) (k : Nat) : Pair := pairC.g xs k
theorem pair_cells {w : World} {b o n k : Nat} {xs : List Pair} (h : SAt pairC w (some ⟨b, o, none⟩) n xs) (hk : k < n) :
    w.cell? ⟨b, o + k * 2, none⟩ = some (.int .i64 (gp xs k).key) ∧ w.cell? ⟨b, o + k * 2 + 1, none⟩ = some (.int .i64 (gp xs k).mark) := by
  have hc := h.cells hk
  exact ⟨hc 0 _ rfl, hc 1 _ rfl⟩
/-- a node of the heap: an element and its number -/
structure Node where
  /-- the element -/
  p : Pair
  /-- the number -/
  num : Int
/-- its cells -/
abbrev na (x : Node) : Array Value := #[.int .i64 x.p.key, .int .i64 x.p.mark, .int .i64 x.num]
/-- how a node lies in memory -/
def nodeC : Codec Node where
  cs x := [.int .i64 x.p.key, .int .i64 x.p.mark, .int .i64 x.num]
  sz := 3
  d := ⟨⟨0, 0⟩, 0⟩
  len _ := rfl
  one x u hu := by
    simp at hu
    rcases hu with rfl | rfl | rfl <;> rfl
/-- node k -/
def gn (xs : List Node) (k : Nat) : Node := nodeC.g xs k
theorem node_cells {w : World} {b o n k : Nat} {xs : List Node} (h : SAt nodeC w (some ⟨b, o, none⟩) n xs) (hk : k < n) :
    w.cell? ⟨b, o + k * 3, none⟩ = some (.int .i64 (gn xs k).p.key) ∧ w.cell? ⟨b, o + k * 3 + 1, none⟩ = some (.int .i64 (gn xs k).p.mark) ∧ w.cell? ⟨b, o + k * 3 + 2, none⟩ = some (.int .i64 (gn xs k).num) := by
  have hc := h.cells hk
  exact ⟨hc 0 _ rfl, hc 1 _ rfl, hc 2 _ rfl⟩
/-- the absolute remainder modulo 3 -/
def restI (n : Int) : Int := if n.tmod 3 < -(n.tmod 3) then -(n.tmod 3) else n.tmod 3
/-- the order of a mode, on keys -/
def lessB (m x y : Int) : Bool :=
  if m = 0 then decide (x < y) else if m = 1 then decide (y < x) else if m = 2 then decide (restI x < restI y) else if m = 3 then true else decide (x ≤ y)
theorem wrap64 {a : Int} (h1 : -1000000000000 ≤ a) (h2 : a ≤ 1000000000000) : IntKind.i64.wrap a = a := by
  simp [IntKind.wrap, IntKind.bits, IntKind.signed]
  omega

theorem lessB_0 (x y : Int) : lessB 0 x y = decide (x < y) := rfl
theorem lessB_1 (x y : Int) : lessB 1 x y = decide (y < x) := rfl
theorem lessB_2 (x y : Int) : lessB 2 x y = decide (restI x < restI y) := rfl
theorem lessB_3 (x y : Int) : lessB 3 x y = true := rfl
theorem lessB_4 {m : Int} (h : ¬ (m = 0 ∨ m = 1 ∨ m = 2 ∨ m = 3)) (x y : Int) : lessB m x y = decide (x ≤ y) := by
  unfold lessB
  rw [if_neg (by omega), if_neg (by omega), if_neg (by omega), if_neg (by omega)]

theorem quiet_on {P : Program} {f : FuncId} {args : Array Value} {w : World} {n : Nat} {v : Value}
    (h : Calls P f args (w.drewN n) fun e w' => e = .returned v ∧ w.drewN n = w') : Calls P f args (w.drewN n) fun e w'' => e = .returned v ∧ ∃ m, w'' = w.drewN m :=
  h.mono fun _ _ ⟨he, hm⟩ => ⟨he, n, hm.symm⟩
set_option maxHeartbeats 400000 in
theorem rest_any (n : Int) (w : World) : Calls Try.prog 38 #[.int .i64 n] w fun e w' => e = .returned (.int .i64 (restI n)) ∧ w = w' := by
  have h1 := Int.lt_tmod_of_pos n (b := 3) (by omega)
  have h2 := Int.tmod_lt_of_pos n (b := 3) (by omega)
  by_cases h : n.tmod 3 < -(n.tmod 3)
  · have HR : Hid (restI n = -(n.tmod 3)) := Lib.hid (if_pos h)
    go_enter Try.func38, Try.ntmps38
    go_wp2
    all_goals first | omega | skip
    go_ret
    exact ⟨ret_int HR.out.symm, rfl⟩
  · have HR : Hid (restI n = n.tmod 3) := Lib.hid (if_neg h)
    go_enter Try.func38, Try.ntmps38
    go_wp2
    all_goals first | omega | skip
    go_ret
    exact ⟨ret_int HR.out.symm, rfl⟩
set_option maxHeartbeats 1000000 in
theorem less_any (m : Int) (x y : Pair) (w : World) : Calls Try.prog 23 #[.int .i64 m, .agg (pa x), .agg (pa y)] w fun e w' => e = .returned (.bool (lessB m x.key y.key)) ∧ Below w.heap.size w w' := by
  have HB : Hid (Below w.heap.size w ((w.alloc (.cells (pa x) 28)).alloc (.cells (pa y) 28))) := Lib.hid (balloc (balloc (Below.refl _ _) _ (Nat.le_refl _)) _ (Nat.le_refl _))
  by_cases h0 : m = 0
  · subst h0
    go_enter Try.func23, Try.ntmps23
    go_wp2
    go_ret
    exact ⟨rfl, HB.out⟩
  by_cases h1 : m = 1
  · subst h1
    go_enter Try.func23, Try.ntmps23
    go_wp2
    go_ret
    exact ⟨rfl, HB.out⟩
  by_cases h3 : m = 3
  · subst h3
    go_enter Try.func23, Try.ntmps23
    go_wp2
    go_ret
    exact ⟨rfl, HB.out⟩
  by_cases h2 : m = 2
  · subst h2
    go_enter Try.func23, Try.ntmps23
    go_wp2
    go_quiet ((go_at_call 38; exact quiet_on (rest_any _ _)))
    go_wp2
    go_ret
    exact ⟨rfl, bdrewN HB.out _⟩
  have HL := Lib.hid (lessB_4 (m := m) (by omega) x.key y.key)
  go_enter Try.func23, Try.ntmps23
  go_wp2
  go_ret
  exact ⟨ret_bool HL.out.symm, HB.out⟩

/-- the function K answers by lt on pairs -/
def LessFn (K : FuncId) (lt : Pair → Pair → Bool) : Prop :=
  (∀ args w, (callFunc K args).run Try.prog w = .ok (.enter K args) w) ∧ ∀ x y w, Calls Try.prog K #[.agg (pa x), .agg (pa y)] w fun e w' => e = .returned (.bool (lt x y)) ∧ Below w.heap.size w w'
/-- the order of a mode, on pairs -/
def ltP (m : Int) (x y : Pair) : Bool := lessB m x.key y.key
set_option maxHeartbeats 400000 in
theorem up_any (x y : Pair) (w : World) : Calls Try.prog 29 #[.agg (pa x), .agg (pa y)] w fun e w' => e = .returned (.bool (ltP 0 x y)) ∧ Below w.heap.size w w' := by
  have HB : Hid (Below w.heap.size w ((w.alloc (.cells (pa x) 28)).alloc (.cells (pa y) 28))) := Lib.hid (balloc (balloc (Below.refl _ _) _ (Nat.le_refl _)) _ (Nat.le_refl _))
  go_enter Try.func29, Try.ntmps29
  go_wp2_with fail
  refine (less_any _ _ _ _).mono ?_
  rintro e w1 ⟨rfl, hb⟩
  have HB1 := Lib.hid (bthen HB.out hb (by simp))
  clear hb
  go_wp2
  go_ret
  exact ⟨rfl, HB1.out⟩
theorem up_fn : LessFn 29 (ltP 0) := ⟨enters_of Try.func29 (by kernel_rfl) rfl, up_any⟩
set_option maxHeartbeats 400000 in
theorem down_any (x y : Pair) (w : World) : Calls Try.prog 30 #[.agg (pa x), .agg (pa y)] w fun e w' => e = .returned (.bool (ltP 1 x y)) ∧ Below w.heap.size w w' := by
  have HB : Hid (Below w.heap.size w ((w.alloc (.cells (pa x) 28)).alloc (.cells (pa y) 28))) := Lib.hid (balloc (balloc (Below.refl _ _) _ (Nat.le_refl _)) _ (Nat.le_refl _))
  go_enter Try.func30, Try.ntmps30
  go_wp2_with fail
  refine (less_any _ _ _ _).mono ?_
  rintro e w1 ⟨rfl, hb⟩
  have HB1 := Lib.hid (bthen HB.out hb (by simp))
  clear hb
  go_wp2
  go_ret
  exact ⟨rfl, HB1.out⟩
theorem down_fn : LessFn 30 (ltP 1) := ⟨enters_of Try.func30 (by kernel_rfl) rfl, down_any⟩
set_option maxHeartbeats 400000 in
theorem byRest_any (x y : Pair) (w : World) : Calls Try.prog 31 #[.agg (pa x), .agg (pa y)] w fun e w' => e = .returned (.bool (ltP 2 x y)) ∧ Below w.heap.size w w' := by
  have HB : Hid (Below w.heap.size w ((w.alloc (.cells (pa x) 28)).alloc (.cells (pa y) 28))) := Lib.hid (balloc (balloc (Below.refl _ _) _ (Nat.le_refl _)) _ (Nat.le_refl _))
  go_enter Try.func31, Try.ntmps31
  go_wp2_with fail
  refine (less_any _ _ _ _).mono ?_
  rintro e w1 ⟨rfl, hb⟩
  have HB1 := Lib.hid (bthen HB.out hb (by simp))
  clear hb
  go_wp2
  go_ret
  exact ⟨rfl, HB1.out⟩
theorem byRest_fn : LessFn 31 (ltP 2) := ⟨enters_of Try.func31 (by kernel_rfl) rfl, byRest_any⟩
set_option maxHeartbeats 400000 in
theorem always_any (x y : Pair) (w : World) : Calls Try.prog 32 #[.agg (pa x), .agg (pa y)] w fun e w' => e = .returned (.bool (ltP 3 x y)) ∧ Below w.heap.size w w' := by
  have HB : Hid (Below w.heap.size w ((w.alloc (.cells (pa x) 28)).alloc (.cells (pa y) 28))) := Lib.hid (balloc (balloc (Below.refl _ _) _ (Nat.le_refl _)) _ (Nat.le_refl _))
  go_enter Try.func32, Try.ntmps32
  go_wp2
  go_ret
  exact ⟨rfl, HB.out⟩
theorem always_fn : LessFn 32 (ltP 3) := ⟨enters_of Try.func32 (by kernel_rfl) rfl, always_any⟩
set_option maxHeartbeats 400000 in
theorem notAbove_any (x y : Pair) (w : World) : Calls Try.prog 33 #[.agg (pa x), .agg (pa y)] w fun e w' => e = .returned (.bool (ltP 4 x y)) ∧ Below w.heap.size w w' := by
  have HB : Hid (Below w.heap.size w ((w.alloc (.cells (pa x) 28)).alloc (.cells (pa y) 28))) := Lib.hid (balloc (balloc (Below.refl _ _) _ (Nat.le_refl _)) _ (Nat.le_refl _))
  have HL := Lib.hid (lessB_4 (m := 4) (by omega) x.key y.key)
  go_enter Try.func33, Try.ntmps33
  go_wp2
  go_ret
  exact ⟨ret_bool HL.out.symm, HB.out⟩
theorem notAbove_fn : LessFn 33 (ltP 4) := ⟨enters_of Try.func33 (by kernel_rfl) rfl, notAbove_any⟩
end Go.Proofs.Ytndbdgadijbhnaa
