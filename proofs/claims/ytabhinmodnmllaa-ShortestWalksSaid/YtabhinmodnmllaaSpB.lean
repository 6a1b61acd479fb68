/-
  swap.
-/
import Derived.Test.YtabhinmodnmllaaSpA
namespace Go.Proofs.Ytabhinmodnmllaa
open Go.RowKit

/-- what a call of the heap leaves alone: everything but the heap's two blocks -/
structure Asd (hb : Nat) (rb : Option Nat) (w w' : World) : Prop where
  os : w'.os = w.os
  tape : w'.tape = w.tape
  output : w'.output = w.output
  size : w.heap.size ≤ w'.heap.size
  block : ∀ k, k < w.heap.size → k ≠ hb → some k ≠ rb → w'.heap[k]? = w.heap[k]?

theorem Asd.refl (hb : Nat) (rb : Option Nat) (w : World) : Asd hb rb w w := ⟨rfl, rfl, rfl, Nat.le_refl _, fun _ _ _ _ => rfl⟩
theorem Asd.setCell {hb : Nat} {rb : Option Nat} {w w' : World} (h : Asd hb rb w w') (p : Addr) (u : Value) (hp : p.block = hb ∨ some p.block = rb) : Asd hb rb w (w'.setCell p u) :=
  ⟨h.os, h.tape, h.output, by simpa [World.setCell] using h.size, fun k hk h1 h2 => (Below.heap_setCell w' p u k (fun e => by subst e; rcases hp with hp | hp; exact h1 hp; exact h2 hp)).trans (h.block k hk h1 h2)⟩
theorem Asd.below {hb : Nat} {rb : Option Nat} {w w1 w2 : World} (h : Asd hb rb w w1) (hb2 : Below w1.heap.size w1 w2) : Asd hb rb w w2 :=
  ⟨hb2.os.trans h.os, hb2.tape.trans h.tape, hb2.output.trans h.output, Nat.le_trans h.size hb2.size, fun k hk h1 h2 => (hb2.block k (Nat.lt_of_lt_of_le hk h.size)).trans (h.block k hk h1 h2)⟩
theorem Asd.drew {hb : Nat} {rb : Option Nat} {w w1 : World} (h : Asd hb rb w w1) : Asd hb rb w w1.drew := h.below (Below.refl _ _).drew
/-- what follows may use the old row or a new block -/
theorem Asd.trans {hb : Nat} {rb rb2 : Option Nat} {w w1 w2 : World} (h : Asd hb rb w w1) (h2 : Asd hb rb2 w1 w2) (hr : ∀ k, rb2 = some k → rb2 = rb ∨ w.heap.size ≤ k) : Asd hb rb w w2 :=
  ⟨h2.os.trans h.os, h2.tape.trans h.tape, h2.output.trans h.output, Nat.le_trans h.size h2.size, fun k hk e1 e2 => (h2.block k (Nat.lt_of_lt_of_le hk h.size) e1 (fun e => by
    rcases hr k e.symm with h' | h'
    · exact e2 (e.trans h')
    · omega)).trans (h.block k hk e1 e2)⟩
theorem Asd.toBelow {hb B : Nat} {rb : Option Nat} {w w1 : World} (h : Asd hb rb w w1) (hB : B ≤ w.heap.size) (h1 : B ≤ hb) (h2 : ∀ k, rb = some k → B ≤ k) : Below B w w1 :=
  ⟨h.os, h.tape, h.output, h.size, fun k hk => h.block k (by omega) (by omega) (fun e => by have := h2 k e.symm; omega)⟩
/-- the row of the heap has turned, its struct has not -/
theorem HeapAt.turn {w w' : World} {base hb : Nat} {K : FuncId} {v : Value} {ns ns' : List Node} {pu : Int} (h : HeapAt w base hb K v ns pu) (hbl : w'.heap[hb]? = w.heap[hb]?)
    (hown : w'.ownsRow base 70 nodeC.sz v ns'.length (nodeC.all ns')) : HeapAt w' base hb K v ns' pu where
  hb0 := h.hb0
  less := (World.cell?_of_block (a := ⟨hb, 0, none⟩) hbl).trans h.less
  row := (World.cell?_of_block (a := ⟨hb, 1, none⟩) hbl).trans h.row
  cnt := (World.cell?_of_block (a := ⟨hb, 2, none⟩) hbl).trans h.cnt
  fr1 := (World.frozen?_of_block (a := ⟨hb, 1, none⟩) hbl).trans h.fr1
  fr2 := (World.frozen?_of_block (a := ⟨hb, 2, none⟩) hbl).trans h.fr2
  own := hown
  ne := h.ne
/-- a node is stored into an own row -/
theorem own_node {w : World} {base e g n c k : Nat} {xs : List Node} (h : w.ownsRow base e nodeC.sz (.slice (some ⟨g, 0, none⟩) n c) n (nodeC.all xs)) (hk : k < xs.length) (y : Node) :
    ((((w.setCell ⟨g, k * 4, none⟩ (.int .i64 y.p.node)).setCell ⟨g, k * 4 + 1, none⟩ (.int .i64 y.p.len)).setCell ⟨g, k * 4 + 2, none⟩ (.int .i64 y.p.edges)).setCell ⟨g, k * 4 + 3, none⟩ (.int .i64 y.num)).ownsRow base e nodeC.sz (.slice (some ⟨g, 0, none⟩) n c) n (nodeC.all (xs.set k y)) := by
  have gs : ∀ (zs : List Node) (z : Node), k < zs.length → nodeC.g (zs.set k z) k = z := fun zs z hz => by simp [Codec.g, hz]
  have h1 := own_store (j := 0) h hk (by decide) ⟨⟨y.p.node, (nodeC.g xs k).p.len, (nodeC.g xs k).p.edges⟩, (nodeC.g xs k).num⟩ (.int .i64 y.p.node) rfl
  have h2 := own_store (j := 1) h1 (by simpa using hk) (by decide) ⟨⟨y.p.node, y.p.len, (nodeC.g xs k).p.edges⟩, (nodeC.g xs k).num⟩ (.int .i64 y.p.len) (by rw [gs _ _ hk]; rfl)
  rw [List.set_set] at h2
  have h3 := own_store (j := 2) h2 (by simpa using hk) (by decide) ⟨⟨y.p.node, y.p.len, y.p.edges⟩, (nodeC.g xs k).num⟩ (.int .i64 y.p.edges) (by rw [gs _ _ hk]; rfl)
  rw [List.set_set] at h3
  have h4 := own_store (j := 3) h3 (by simpa using hk) (by decide) y (.int .i64 y.num) (by rw [gs _ _ hk]; rfl)
  rw [List.set_set] at h4
  exact h4
/-- two nodes exchanged -/
def swpN (ns : List Node) (i k : Nat) : List Node := (ns.set i (gn ns k)).set k (gn ns i)
theorem swpN_len (ns : List Node) (i k : Nat) : (swpN ns i k).length = ns.length := by simp [swpN]
theorem swap_end {w : World} {base hb g c n i k : Nat} {K : FuncId} {ns : List Node} {pu : Int} (h : HeapAt w base hb K (.slice (some ⟨g, 0, none⟩) ns.length c) ns pu) (hg : g ≠ hb) (hn : n = ns.length) (hi : i < n) (hk : k < n) :
    HeapAt ((((((((w.setCell ⟨g, i * 4, none⟩ (.int .i64 (gn ns k).p.node)).setCell ⟨g, i * 4 + 1, none⟩ (.int .i64 (gn ns k).p.len)).setCell ⟨g, i * 4 + 2, none⟩ (.int .i64 (gn ns k).p.edges)).setCell ⟨g, i * 4 + 3, none⟩ (.int .i64 (gn ns k).num)).setCell ⟨g, k * 4, none⟩ (.int .i64 (gn ns i).p.node)).setCell ⟨g, k * 4 + 1, none⟩ (.int .i64 (gn ns i).p.len)).setCell ⟨g, k * 4 + 2, none⟩ (.int .i64 (gn ns i).p.edges)).setCell ⟨g, k * 4 + 3, none⟩ (.int .i64 (gn ns i).num)).drew base hb K (.slice (some ⟨g, 0, none⟩) ns.length c) (swpN ns i k) pu ∧ Asd hb (some g) w ((((((((w.setCell ⟨g, i * 4, none⟩ (.int .i64 (gn ns k).p.node)).setCell ⟨g, i * 4 + 1, none⟩ (.int .i64 (gn ns k).p.len)).setCell ⟨g, i * 4 + 2, none⟩ (.int .i64 (gn ns k).p.edges)).setCell ⟨g, i * 4 + 3, none⟩ (.int .i64 (gn ns k).num)).setCell ⟨g, k * 4, none⟩ (.int .i64 (gn ns i).p.node)).setCell ⟨g, k * 4 + 1, none⟩ (.int .i64 (gn ns i).p.len)).setCell ⟨g, k * 4 + 2, none⟩ (.int .i64 (gn ns i).p.edges)).setCell ⟨g, k * 4 + 3, none⟩ (.int .i64 (gn ns i).num)).drew := by
  refine ⟨HeapAt.drew (h.turn ?_ ?_), ?_⟩
  · iterate 8 (rw [Below.heap_setCell _ _ _ _ (fun e => hg e.symm)])
  · rw [swpN_len]
    exact own_node (own_node h.own (hn ▸ hi) (gn ns k)) (by simpa using hn ▸ hk) (gn ns i)
  · exact ((((((((Asd.refl hb (some g) w).setCell _ _ (.inr rfl)).setCell _ _ (.inr rfl)).setCell _ _ (.inr rfl)).setCell _ _ (.inr rfl)).setCell _ _ (.inr rfl)).setCell _ _ (.inr rfl)).setCell _ _ (.inr rfl)).setCell _ _ (.inr rfl) |>.drew

set_option maxRecDepth 100000 in
set_option maxHeartbeats 4000000 in
theorem swap_any (K : FuncId) (base hb : Nat) (v : Value) (ns : List Node) (pu : Int) (w : World) (h : HeapAt w base hb K v ns pu) (n i k : Nat) (hn : n = ns.length) (hi : i < n) (hk : k < n) :
    Calls Try.prog 36 #[.pointer (some ⟨hb, 0, none⟩), .int .i64 i, .int .i64 k] w fun e w' => e = .returned (.tuple #[]) ∧ HeapAt w' base hb K v (swpN ns i k) pu ∧ Asd hb v.ownBlock w w' := by
  obtain ⟨g, c, rfl, hc, hg, hgb, hS⟩ := h.some_ (by omega)
  obtain ⟨a0, a1, a2, a3⟩ := node_cells' hS (hn ▸ hi)
  obtain ⟨b0, b1, b2, b3⟩ := node_cells' hS (hn ▸ hk)
  have c1 := h.row
  have i0 : (0 : Int) ≤ (i : Int) := by omega
  have k0 : (0 : Int) ≤ (k : Int) := by omega
  rw [← hn] at c1
  have i1 : (i : Int) < (n : Int) := by omega
  have k1 : (k : Int) < (n : Int) := by omega
  have f := h.own.frozenAt
  have H := Lib.hid h
  have HN := Lib.hid hn
  clear h hn hS
  by_cases hik : i = k
  · subst hik
    clear b0 b1 b2 b3 k0 k1
    go_enter Try.func36, Try.ntmps36
    go_wp2
    go_region
    go_end0
    exact ⟨rfl, swap_end H.out hg HN.out hi hk⟩
  · go_enter Try.func36, Try.ntmps36
    go_wp2
    go_region
    go_end0
    exact ⟨rfl, swap_end H.out hg HN.out hi hk⟩
end Go.Proofs.Ytabhinmodnmllaa
