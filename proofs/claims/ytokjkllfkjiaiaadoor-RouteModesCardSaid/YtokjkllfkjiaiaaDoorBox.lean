/-
  A record in a block of its own, by its codec. Plain lemmas on worlds; no program in sight.
-/
import Derived.Test.YtokjkllfkjiaiaaDoorRec
namespace Go.Proofs.YtokjkllfkjiaiaaDoor
open Go.RowKit
section
variable {α : Type} {C : Codec α}
/-- block B holds the record x -/
def BoxC (C : Codec α) (w : World) (B : Nat) (x : α) : Prop := ∀ j u, (C.cs x)[j]? = some u → w.cell? ⟨B, j, none⟩ = some u
theorem BoxC.new (w : World) (x : α) (cs : Array Value) (t : TypeId) (h : cs.toList = C.cs x) : BoxC C (w.alloc (.cells cs t)) w.heap.size x := by
  intro j u hu
  rw [World.cell?_alloc_at _ _ _ _ rfl, ← hu, ← h]
  simp
theorem BoxC.stays {w w' : World} {B : Nat} {x : α} (h : BoxC C w B x) (hb : Below w.heap.size w w') : BoxC C w' B x := fun j u hu =>
  (hb.cell (p := ⟨B, j, none⟩) (cell?_block_lt (h j u hu))).trans (h j u hu)
theorem BoxC.drewN {w : World} {B : Nat} {x : α} (h : BoxC C w B x) (m : Nat) : BoxC C (w.drewN m) B x := h
/-- a world under a name, behind the allocation of a record -/
theorem box_new (w : World) (x : α) (cs : Array Value) (t : TypeId) (h : cs.toList = C.cs x) : ∃ W, W = w.alloc (.cells cs t) ∧ BoxC C W w.heap.size x ∧ Below w.heap.size w W :=
  ⟨_, rfl, BoxC.new w x cs t h, balloc (Below.refl _ _) _ (Nat.le_refl _)⟩
end
end Go.Proofs.YtokjkllfkjiaiaaDoor
