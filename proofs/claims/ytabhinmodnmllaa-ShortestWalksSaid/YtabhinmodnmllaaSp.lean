/-
  Labels and nodes of a heap, how they lie in memory; the order of labels. Printed by gen/heap12.py.
-/
import Derived.Test.YtabhinmodnmllaaRec2
import Derived.Test.YtabhinmodnmllaaRows
import Derived.WalkSpells
import Derived.WalkLawsBesides
import Derived.Deep.QuietTactic
import Derived.BigQuiet
import Derived.IntWalk
import Derived.Shelf.Abstract
namespace Go.Proofs.Ytabhinmodnmllaa
open Go.RowKit

/-- a label -/
structure Lab where
  /-- the node -/
  node : Int
  /-- the length -/
  len : Int
  /-- the number of edges -/
  edges : Int
/-- its cells -/
abbrev la (x : Lab) : Array Value := #[.int .i64 x.node, .int .i64 x.len, .int .i64 x.edges]
/-- how a label lies in memory -/
def labC : Codec Lab where
  cs x := [.int .i64 x.node, .int .i64 x.len, .int .i64 x.edges]
  sz := 3
  d := ⟨0, 0, 0⟩
  len _ := rfl
  one x u hu := by
    simp at hu
    rcases hu with rfl | rfl | rfl <;> rfl
/-- label k -/
def gl (xs : List Lab) (k : Nat) : Lab := labC.g xs k
theorem lab_cells {w : World} {b o n k : Nat} {xs : List Lab} (h : SAt labC w (some ⟨b, o, none⟩) n xs) (hk : k < n) :
    w.cell? ⟨b, o + k * 3, none⟩ = some (.int .i64 (gl xs k).node) ∧ w.cell? ⟨b, o + k * 3 + 1, none⟩ = some (.int .i64 (gl xs k).len) ∧ w.cell? ⟨b, o + k * 3 + 2, none⟩ = some (.int .i64 (gl xs k).edges) := by
  have hc := h.cells hk
  exact ⟨hc 0 _ rfl, hc 1 _ rfl, hc 2 _ rfl⟩
/-- a node of the heap: an element and its number -/
structure Node where
  /-- the element -/
  p : Lab
  /-- the number -/
  num : Int
/-- how a node lies in memory -/
def nodeC : Codec Node where
  cs x := [.int .i64 x.p.node, .int .i64 x.p.len, .int .i64 x.p.edges, .int .i64 x.num]
  sz := 4
  d := ⟨⟨0, 0, 0⟩, 0⟩
  len _ := rfl
  one x u hu := by
    simp at hu
    rcases hu with rfl | rfl | rfl | rfl <;> rfl
/-- node k -/
def gn (xs : List Node) (k : Nat) : Node := nodeC.g xs k
theorem node_cells {w : World} {b o n k : Nat} {xs : List Node} (h : SAt nodeC w (some ⟨b, o, none⟩) n xs) (hk : k < n) :
    w.cell? ⟨b, o + k * 4, none⟩ = some (.int .i64 (gn xs k).p.node) ∧ w.cell? ⟨b, o + k * 4 + 1, none⟩ = some (.int .i64 (gn xs k).p.len) ∧ w.cell? ⟨b, o + k * 4 + 2, none⟩ = some (.int .i64 (gn xs k).p.edges) ∧ w.cell? ⟨b, o + k * 4 + 3, none⟩ = some (.int .i64 (gn xs k).num) := by
  have hc := h.cells hk
  exact ⟨hc 0 _ rfl, hc 1 _ rfl, hc 2 _ rfl, hc 3 _ rfl⟩
theorem wrap64 {a : Int} (h1 : -1000000000000 ≤ a) (h2 : a ≤ 1000000000000) : IntKind.i64.wrap a = a := by
  simp [IntKind.wrap, IntKind.bits, IntKind.signed]
  omega
/-- the function K answers by lt on labels -/
def LessFn (K : FuncId) (lt : Lab → Lab → Bool) : Prop :=
  (∀ args w, (callFunc K args).run Try.prog w = .ok (.enter K args) w) ∧ ∀ x y w, Calls Try.prog K #[.agg (la x), .agg (la y)] w fun e w' => e = .returned (.bool (lt x y)) ∧ Below w.heap.size w w'
/-- shorter, or as long and of fewer edges -/
def ltL (x y : Lab) : Bool := decide (x.len < y.len ∨ (x.len = y.len ∧ x.edges < y.edges))
set_option maxHeartbeats 1000000 in
theorem less_any (x y : Lab) (w : World) : Calls Try.prog 32 #[.agg (la x), .agg (la y)] w fun e w' => e = .returned (.bool (ltL x y)) ∧ Below w.heap.size w w' := by
  have HB : Hid (Below w.heap.size w ((w.alloc (.cells (la x) 57)).alloc (.cells (la y) 57))) := Lib.hid (balloc (balloc (Below.refl _ _) _ (Nat.le_refl _)) _ (Nat.le_refl _))
  rcases Int.lt_trichotomy x.len y.len with h | h | h
  · have HL : Hid (ltL x y = true) := Lib.hid (decide_eq_true (.inl h))
    go_enter Try.func32, Try.ntmps32
    go_wp2
    go_ret
    exact ⟨ret_bool HL.out.symm, HB.out⟩
  · by_cases h2 : x.edges < y.edges
    · have HL : Hid (ltL x y = true) := Lib.hid (decide_eq_true (.inr ⟨h, h2⟩))
      have h1 : ¬ x.len < y.len := by omega
      have h3 : (x.len == y.len) = true := by rw [beq_iff_eq]; exact h
      clear h
      go_enter Try.func32, Try.ntmps32
      go_wp2
      go_ret
      exact ⟨ret_bool HL.out.symm, HB.out⟩
    · have HL : Hid (ltL x y = false) := Lib.hid (decide_eq_false (by omega))
      have h1 : ¬ x.len < y.len := by omega
      have h3 : (x.len == y.len) = true := by rw [beq_iff_eq]; exact h
      clear h
      go_enter Try.func32, Try.ntmps32
      go_wp2
      go_ret
      exact ⟨ret_bool HL.out.symm, HB.out⟩
  · have HL : Hid (ltL x y = false) := Lib.hid (decide_eq_false (by omega))
    have h1 : ¬ x.len < y.len := by omega
    have h3 : (x.len == y.len) = false := by rw [beq_eq_false_iff_ne]; omega
    go_enter Try.func32, Try.ntmps32
    go_wp2
    go_ret
    exact ⟨ret_bool HL.out.symm, HB.out⟩
theorem less_fn : LessFn 32 ltL := ⟨enters_of Try.func32 (by kernel_rfl) rfl, less_any⟩
end Go.Proofs.Ytabhinmodnmllaa
