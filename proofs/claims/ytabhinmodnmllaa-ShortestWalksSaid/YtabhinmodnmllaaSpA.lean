/-
  A heap in memory; before, swap.
-/
import Derived.Test.YtabhinmodnmllaaSp
import Derived.RegionTactic
import Derived.BigRegion
import Derived.Deep.RegionHeld3
import Derived.Deep.LoopGhost
import Derived.Deep.CutRange
import Derived.Deep.DeepCutAuto
namespace Go.Proofs.Ytabhinmodnmllaa
open Go.RowKit

/-- the heap's struct in block hb, its nodes in an own row -/
structure HeapAt (w : World) (base hb : Nat) (K : FuncId) (v : Value) (ns : List Node) (pu : Int) : Prop where
  hb0 : base ≤ hb
  less : w.cell? ⟨hb, 0, none⟩ = some (.func (.func K) #[] #[])
  row : w.cell? ⟨hb, 1, none⟩ = some v
  cnt : w.cell? ⟨hb, 2, none⟩ = some (.int .i64 pu)
  fr1 : w.frozen? ⟨hb, 1, none⟩ = false
  fr2 : w.frozen? ⟨hb, 2, none⟩ = false
  own : w.ownsRow base 70 nodeC.sz v ns.length (nodeC.all ns)
  ne : v.ownBlock ≠ some hb
theorem HeapAt.lt {w : World} {base hb : Nat} {K : FuncId} {v : Value} {ns : List Node} {pu : Int} (h : HeapAt w base hb K v ns pu) : hb < w.heap.size := cell?_block_lt h.less
theorem HeapAt.stays {w w' : World} {base hb : Nat} {K : FuncId} {v : Value} {ns : List Node} {pu : Int} (h : HeapAt w base hb K v ns pu) (hw : Below w.heap.size w w') : HeapAt w' base hb K v ns pu where
  hb0 := h.hb0
  less := (hw.cell (p := ⟨hb, 0, none⟩) h.lt).trans h.less
  row := (hw.cell (p := ⟨hb, 1, none⟩) h.lt).trans h.row
  cnt := (hw.cell (p := ⟨hb, 2, none⟩) h.lt).trans h.cnt
  fr1 := (hw.frozen (p := ⟨hb, 1, none⟩) h.lt).trans h.fr1
  fr2 := (hw.frozen (p := ⟨hb, 2, none⟩) h.lt).trans h.fr2
  own := ownsRow_stays h.own hw
  ne := h.ne
theorem HeapAt.drewN {w : World} {base hb : Nat} {K : FuncId} {v : Value} {ns : List Node} {pu : Int} (h : HeapAt w base hb K v ns pu) (n : Nat) : HeapAt (w.drewN n) base hb K v ns pu := h.stays ⟨rfl, rfl, rfl, Nat.le_refl _, fun _ _ => rfl⟩
theorem HeapAt.drew {w : World} {base hb : Nat} {K : FuncId} {v : Value} {ns : List Node} {pu : Int} (h : HeapAt w base hb K v ns pu) : HeapAt w.drew base hb K v ns pu := h.stays ⟨rfl, rfl, rfl, Nat.le_refl _, fun _ _ => rfl⟩
/-- the row of a heap that is not empty -/
theorem HeapAt.some_ {w : World} {base hb : Nat} {K : FuncId} {v : Value} {ns : List Node} {pu : Int} (h : HeapAt w base hb K v ns pu) (hn : 0 < ns.length) :
    ∃ g c, v = .slice (some ⟨g, 0, none⟩) ns.length c ∧ ns.length ≤ c ∧ g ≠ hb ∧ base ≤ g ∧ SAt nodeC w (some ⟨g, 0, none⟩) ns.length ns := by
  obtain ⟨A, c, hv, hc⟩ := ownsRow_slice h.own
  obtain ⟨g, cap, hv2, hg, _⟩ := h.own.form hn
  rw [hv] at hv2
  injection hv2 with hA _ hcc
  subst hA hcc
  refine ⟨g, c, hv, hc, ?_, hg, SAt.own (hv ▸ h.own) (by decide)⟩
  intro e
  apply h.ne
  rw [hv, ← e]
  rfl
theorem node_cells' {w : World} {b n k : Nat} {xs : List Node} (h : SAt nodeC w (some ⟨b, 0, none⟩) n xs) (hk : k < n) :
    w.cell? ⟨b, k * 4, none⟩ = some (.int .i64 (gn xs k).p.node) ∧ w.cell? ⟨b, k * 4 + 1, none⟩ = some (.int .i64 (gn xs k).p.len) ∧ w.cell? ⟨b, k * 4 + 2, none⟩ = some (.int .i64 (gn xs k).p.edges) ∧ w.cell? ⟨b, k * 4 + 3, none⟩ = some (.int .i64 (gn xs k).num) := by
  have := node_cells h hk
  rwa [Nat.zero_add] at this
theorem al2 {w : World} {a : Addr} {v : Value} (h : w.cell? a = some v) : (∀ o, (w.alloc o).cell? a = some v) ∧ ∀ o o', ((w.alloc o).alloc o').cell? a = some v := by
  have hl := cell?_block_lt h
  have h1 : ∀ o, (w.alloc o).cell? a = some v := fun o => (((Below.refl _ w).alloc (Nat.le_refl _) o).cell hl).trans h
  exact ⟨h1, fun o o' => (((Below.refl _ (w.alloc o)).alloc (Nat.le_refl _) o').cell (by simp; omega)).trans (h1 o)⟩
/-- a boxed node -/
def Box3 (u : World) (B : Nat) (x : Node) : Prop := u.cell? ⟨B, 0, none⟩ = some (.int .i64 x.p.node) ∧ u.cell? ⟨B, 1, none⟩ = some (.int .i64 x.p.len) ∧ u.cell? ⟨B, 2, none⟩ = some (.int .i64 x.p.edges) ∧ u.cell? ⟨B, 3, none⟩ = some (.int .i64 x.num)
theorem Box3.new (w : World) (x : Node) (t : TypeId) (B : Nat) (hB : B = w.heap.size) : Box3 (w.alloc (.cells #[.int .i64 x.p.node, .int .i64 x.p.len, .int .i64 x.p.edges, .int .i64 x.num] t)) B x := by
  subst hB
  refine ⟨?_, ?_, ?_, ?_⟩ <;> (rw [World.cell?_alloc_at _ _ _ _ rfl]; rfl)
theorem Box3.stays {w w' : World} {B : Nat} {x : Node} (h : Box3 w B x) (hb : Below w.heap.size w w') : Box3 w' B x := by
  have hl : B < w.heap.size := cell?_block_lt h.1
  exact ⟨(hb.cell (p := ⟨B, 0, none⟩) hl).trans h.1, (hb.cell (p := ⟨B, 1, none⟩) hl).trans h.2.1, (hb.cell (p := ⟨B, 2, none⟩) hl).trans h.2.2.1, (hb.cell (p := ⟨B, 3, none⟩) hl).trans h.2.2.2⟩
theorem Box3.drew {w : World} {B : Nat} {x : Node} (h : Box3 w B x) : Box3 w.drew B x := h
theorem al1 (w : World) (o : Obj) : Below w.heap.size w (w.alloc o) := (Below.refl _ w).alloc (Nat.le_refl _) o
theorem two_boxes (w : World) (x y : Node) (t : TypeId) : Box3 (((w.alloc (.cells #[.int .i64 x.p.node, .int .i64 x.p.len, .int .i64 x.p.edges, .int .i64 x.num] t)).alloc (.cells #[.int .i64 y.p.node, .int .i64 y.p.len, .int .i64 y.p.edges, .int .i64 y.num] t)).drew) w.heap.size x ∧
    Box3 (((w.alloc (.cells #[.int .i64 x.p.node, .int .i64 x.p.len, .int .i64 x.p.edges, .int .i64 x.num] t)).alloc (.cells #[.int .i64 y.p.node, .int .i64 y.p.len, .int .i64 y.p.edges, .int .i64 y.num] t)).drew) (w.heap.size + 1) y ∧
    Below w.heap.size w (((w.alloc (.cells #[.int .i64 x.p.node, .int .i64 x.p.len, .int .i64 x.p.edges, .int .i64 x.num] t)).alloc (.cells #[.int .i64 y.p.node, .int .i64 y.p.len, .int .i64 y.p.edges, .int .i64 y.num] t)).drew) :=
  ⟨(Box3.new w x t _ rfl).stays (al1 _ _).drew, Box3.new _ y t _ (by simp), (balloc (al1 _ _) _ (Nat.le_refl _)).drew⟩
theorem five {u : World} {base hb B C : Nat} {K : FuncId} {v : Value} {ns : List Node} {pu : Int} {x y : Node} (h : HeapAt u base hb K v ns pu) (hx : Box3 u B x) (hy : Box3 u C y) :
    u.cell? ⟨hb, 0, none⟩ = some (.func (.func K) #[] #[]) ∧ u.cell? ⟨B, 0, none⟩ = some (.int .i64 x.p.node) ∧ u.cell? ⟨B, 1, none⟩ = some (.int .i64 x.p.len) ∧ u.cell? ⟨B, 2, none⟩ = some (.int .i64 x.p.edges) ∧ u.cell? ⟨C, 0, none⟩ = some (.int .i64 y.p.node) ∧ u.cell? ⟨C, 1, none⟩ = some (.int .i64 y.p.len) ∧ u.cell? ⟨C, 2, none⟩ = some (.int .i64 y.p.edges) := ⟨h.less, hx.1, hx.2.1, hx.2.2.1, hy.1, hy.2.1, hy.2.2.1⟩
/-- does node a come before node b? -/
def bef (lt : Lab → Lab → Bool) (a b : Node) : Bool := lt a.p b.p || (!lt b.p a.p && decide (a.num < b.num))

set_option maxRecDepth 100000 in
set_option maxHeartbeats 2000000 in
theorem before_any (K : FuncId) (lt : Lab → Lab → Bool) (hK : LessFn K lt) (base hb : Nat) (v : Value) (ns : List Node) (pu : Int) (w : World) (h : HeapAt w base hb K v ns pu) (n i k : Nat) (hn : n = ns.length) (hi : i < n) (hk : k < n) :
    Calls Try.prog 35 #[.pointer (some ⟨hb, 0, none⟩), .int .i64 i, .int .i64 k] w fun e w' => e = .returned (.bool (bef lt (gn ns i) (gn ns k))) ∧ Below w.heap.size w w' := by
  obtain ⟨g, c, rfl, hc, hg, hgb, hS⟩ := h.some_ (by omega)
  obtain ⟨a0, a1, a2, a3⟩ := node_cells' hS (hn ▸ hi)
  obtain ⟨b0, b1, b2, b3⟩ := node_cells' hS (hn ▸ hk)
  have c1 := h.row
  have i0 : (0 : Int) ≤ (i : Int) := by omega
  have k0 : (0 : Int) ≤ (k : Int) := by omega
  rw [← hn] at c1
  have i1 : (i : Int) < (n : Int) := by omega
  have k1 : (k : Int) < (n : Int) := by omega
  obtain ⟨a0', a0''⟩ := al2 a0
  obtain ⟨a1', a1''⟩ := al2 a1
  obtain ⟨a2', a2''⟩ := al2 a2
  obtain ⟨a3', a3''⟩ := al2 a3
  obtain ⟨b0', b0''⟩ := al2 b0
  obtain ⟨b1', b1''⟩ := al2 b1
  obtain ⟨b2', b2''⟩ := al2 b2
  obtain ⟨b3', b3''⟩ := al2 b3
  obtain ⟨c1', c1''⟩ := al2 c1
  have H := Lib.hid h
  have HK := Lib.hid hK
  have HN := Lib.hid hn
  clear h hK hn hS
  go_enter Try.func35, Try.ntmps35
  go_upto_region 1 with fail
  go_cut [0, 7, 8] (fun z s t wx => ∃ B C : Nat, z = .pointer (some ⟨hb, 0, none⟩) ∧ s = .pointer (some ⟨B, 0, none⟩) ∧ t = .pointer (some ⟨C, 0, none⟩) ∧ Hid (Box3 wx B (gn ns i)) ∧ Hid (Box3 wx C (gn ns k)) ∧ Hid (Below w.heap.size w wx))
  case first =>
    go_region
    all_goals go_wp2_with fail
    all_goals go_meet
    · obtain ⟨h1, h2, h3⟩ := two_boxes w (gn ns i) (gn ns k) 70
      exact ⟨_, _, rfl, rfl, rfl, h1, h2, h3⟩
    · obtain ⟨h1, h2, h3⟩ := two_boxes w (gn ns k) (gn ns i) 70
      exact ⟨_, _, rfl, rfl, rfl, h2, h1, h3⟩
  case rest =>
    obtain ⟨B, C, rfl, rfl, rfl, HX, HY, HB⟩ := hcut
    clear a0 a1 a2 a3 b0 b1 b2 b3 a0' a1' a2' a3' b0' b1' b2' b3' a0'' a1'' a2'' a3'' b0'' b1'' b2'' b3'' c1 c1' c1''
    obtain ⟨hent, hless⟩ := HK.out
    have HE := Lib.hid (H.out.stays HB.out)
    have hS := five HE.out.drew HX.out.drew HY.out.drew
    go_wp2_with fail
    go_region_held3 (fun u => u.cell? ⟨hb, 0, none⟩ = some (.func (.func K) #[] #[]) ∧ u.cell? ⟨B, 0, none⟩ = some (.int .i64 (gn ns i).p.node) ∧ u.cell? ⟨B, 1, none⟩ = some (.int .i64 (gn ns i).p.len) ∧ u.cell? ⟨B, 2, none⟩ = some (.int .i64 (gn ns i).p.edges) ∧ u.cell? ⟨C, 0, none⟩ = some (.int .i64 (gn ns k).p.node) ∧ u.cell? ⟨C, 1, none⟩ = some (.int .i64 (gn ns k).p.len) ∧ u.cell? ⟨C, 2, none⟩ = some (.int .i64 (gn ns k).p.edges)) (first | exact hS | exact hS') ((first | (go_simp; (with_reducible refine (hless (gn ns i).p (gn ns k).p _).mono ?_); rintro e w5 ⟨rfl, hb5⟩; have HX5 := Lib.hid (HX.out.drew.stays hb5); have HY5 := Lib.hid (HY.out.drew.stays hb5); have HE5 := Lib.hid (HE.out.drew.stays hb5); have hS' := five HE5.out HX5.out HY5.out; have HB5 := Lib.hid (bthen HB.out.drew hb5 (Nat.le_refl _)); clear hb5)))
    all_goals clear hless
    all_goals obtain ⟨x0, x1, x2, x3⟩ := HX5.out
    all_goals obtain ⟨y0, y1, y2, y3⟩ := HY5.out
    cases hl : lt (gn ns i).p (gn ns k).p
    · clear hS hS'
      have hS := five HE5.out.drew HY5.out.drew HX5.out.drew
      obtain ⟨hent, hless⟩ := HK.out
      go_wp2_with fail
      go_region_held3 (fun u => u.cell? ⟨hb, 0, none⟩ = some (.func (.func K) #[] #[]) ∧ u.cell? ⟨C, 0, none⟩ = some (.int .i64 (gn ns k).p.node) ∧ u.cell? ⟨C, 1, none⟩ = some (.int .i64 (gn ns k).p.len) ∧ u.cell? ⟨C, 2, none⟩ = some (.int .i64 (gn ns k).p.edges) ∧ u.cell? ⟨B, 0, none⟩ = some (.int .i64 (gn ns i).p.node) ∧ u.cell? ⟨B, 1, none⟩ = some (.int .i64 (gn ns i).p.len) ∧ u.cell? ⟨B, 2, none⟩ = some (.int .i64 (gn ns i).p.edges)) (first | exact hS | exact hS') ((first | (go_simp; (with_reducible refine (hless (gn ns k).p (gn ns i).p _).mono ?_); rintro e w6 ⟨rfl, hb6⟩; have HX6 := Lib.hid (HX5.out.drew.stays hb6); have HY6 := Lib.hid (HY5.out.drew.stays hb6); have HE6 := Lib.hid (HE5.out.drew.stays hb6); have hS' := five HE6.out HY6.out HX6.out; have HB6 := Lib.hid (bthen HB5.out.drew hb6 (Nat.le_refl _)); clear hb6)))
      all_goals clear hless
      all_goals obtain ⟨x0, x1, x2, x3⟩ := HX6.out
      all_goals obtain ⟨y0, y1, y2, y3⟩ := HY6.out
      cases hl2 : lt (gn ns k).p (gn ns i).p
      · have HF : Hid (bef lt (gn ns i) (gn ns k) = decide ((gn ns i).num < (gn ns k).num)) := Lib.hid (by simp [bef, hl, hl2])
        go_wp2
        go_ret
        exact ⟨ret_bool HF.out.symm, HB6.out⟩
      · have HF : Hid (bef lt (gn ns i) (gn ns k) = false) := Lib.hid (by simp [bef, hl, hl2])
        go_wp2
        go_ret
        exact ⟨ret_bool HF.out.symm, HB6.out⟩
    · have HF : Hid (bef lt (gn ns i) (gn ns k) = true) := Lib.hid (by simp [bef, hl])
      go_wp2
      go_ret
      exact ⟨ret_bool HF.out.symm, HB5.out⟩
end Go.Proofs.Ytabhinmodnmllaa
