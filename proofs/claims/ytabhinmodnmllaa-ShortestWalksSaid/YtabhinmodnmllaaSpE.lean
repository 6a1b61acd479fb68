/-
  Pop, New, made. Printed by gen/hp5.py.
-/
import Derived.Test.YtabhinmodnmllaaSpD
import Derived.Test.YtabhinmodnmllaaFnEq
namespace Go.Proofs.Ytabhinmodnmllaa
open Go.RowKit

/-- a boxed label that may be written -/
def Box2 (u : World) (B : Nat) (x : Lab) : Prop := u.cell? ⟨B, 0, none⟩ = some (.int .i64 x.node) ∧ u.cell? ⟨B, 1, none⟩ = some (.int .i64 x.len) ∧ u.cell? ⟨B, 2, none⟩ = some (.int .i64 x.edges) ∧ u.frozen? ⟨B, 0, none⟩ = false ∧ u.frozen? ⟨B, 1, none⟩ = false ∧ u.frozen? ⟨B, 2, none⟩ = false
theorem Box2.new (w : World) (x : Lab) (t : TypeId) (B : Nat) (hB : B = w.heap.size) : Box2 (w.alloc (.cells #[.int .i64 x.node, .int .i64 x.len, .int .i64 x.edges] t)) B x := by
  subst hB
  refine ⟨?_, ?_, ?_, ?_, ?_, ?_⟩
  · rw [World.cell?_alloc_at _ _ _ _ rfl]; rfl
  · rw [World.cell?_alloc_at _ _ _ _ rfl]; rfl
  · rw [World.cell?_alloc_at _ _ _ _ rfl]; rfl
  all_goals
    unfold World.frozen?
    rw [show (w.alloc _).heap[w.heap.size]? = _ from heap_alloc_new w _]
    rfl
theorem Box2.lt {w : World} {B : Nat} {x : Lab} (h : Box2 w B x) : B < w.heap.size := cell?_block_lt h.1
theorem Box2.of_block {w w' : World} {B : Nat} {x : Lab} (h : Box2 w B x) (hb : w'.heap[B]? = w.heap[B]?) : Box2 w' B x :=
  ⟨(World.cell?_of_block (a := ⟨B, 0, none⟩) hb).trans h.1, (World.cell?_of_block (a := ⟨B, 1, none⟩) hb).trans h.2.1, (World.cell?_of_block (a := ⟨B, 2, none⟩) hb).trans h.2.2.1, (World.frozen?_of_block (a := ⟨B, 0, none⟩) hb).trans h.2.2.2.1, (World.frozen?_of_block (a := ⟨B, 1, none⟩) hb).trans h.2.2.2.2.1, (World.frozen?_of_block (a := ⟨B, 2, none⟩) hb).trans h.2.2.2.2.2⟩
theorem Box2.stays {w w' : World} {B : Nat} {x : Lab} (h : Box2 w B x) (hb : Below w.heap.size w w') : Box2 w' B x := h.of_block (hb.block B h.lt)
theorem Box2.asd {w w' : World} {B hb : Nat} {rb : Option Nat} {x : Lab} (h : Box2 w B x) (ha : Asd hb rb w w') (h1 : B ≠ hb) (h2 : some B ≠ rb) : Box2 w' B x := h.of_block (ha.block B h.lt h1 h2)
theorem own_take {w : World} {base e g m c : Nat} {xs : List Node} (h : w.ownsRow base e nodeC.sz (.slice (some ⟨g, 0, none⟩) (m + 1) c) (m + 1) (nodeC.all xs)) : w.ownsRow base e nodeC.sz (.slice (some ⟨g, 0, none⟩) m c) m (nodeC.all (xs.take m)) := by
  rcases h.2 with ⟨h1, _⟩ | ⟨g', cap, cur, hv, hb, hg, hc, hm, hs, ht⟩
  · cases h1
  · injection hv with hA _ hcc
    injection hA with hA
    injection hA with hA
    subst hA hcc
    have hl : xs.length = m + 1 := by
      have := h.1
      rw [nodeC.all_len] at this
      exact Nat.eq_of_mul_eq_mul_right (by decide) this
    refine ⟨by rw [nodeC.all_len, List.length_take]; congr 1; omega, .inr ⟨g, c, cur, rfl, hb, hg, by omega, hm, hs, ?_⟩⟩
    rw [nodeC.all_take, ← ht, List.take_take]
    congr 1
    rw [Nat.add_mul]
    omega
theorem HeapAt.shrink {w : World} {base hb g m c : Nat} {K : FuncId} {ns : List Node} {pu : Int} (h : HeapAt w base hb K (.slice (some ⟨g, 0, none⟩) (m + 1) c) ns pu) (hl : ns.length = m + 1) :
    HeapAt (w.setCell ⟨hb, 1, none⟩ (.slice (some ⟨g, 0, none⟩) m c)) base hb K (.slice (some ⟨g, 0, none⟩) m c) (ns.take m) pu := by
  have hlt : (ns.take m).length = m := by rw [List.length_take]; omega
  refine heap_put h.hb0 h.less h.row h.cnt h.fr1 h.fr2 ?_ h.ne
  rw [hlt]
  exact own_take (hl ▸ h.own)
theorem Asd.setNew {hb : Nat} {rb : Option Nat} {w w' : World} (h : Asd hb rb w w') (p : Addr) (u : Value) (hp : w.heap.size ≤ p.block) : Asd hb rb w (w'.setCell p u) :=
  ⟨h.os, h.tape, h.output, by simpa [World.setCell] using h.size, fun k hk h1 h2 => (Below.heap_setCell w' p u k (by omega)).trans (h.block k hk h1 h2)⟩
theorem HeapAt.far {w : World} {base hb : Nat} {K : FuncId} {v : Value} {ns : List Node} {pu : Int} (h : HeapAt w base hb K v ns pu) (p : Addr) (u : Value) (h1 : p.block ≠ hb) (h2 : v.ownBlock ≠ some p.block) : HeapAt (w.setCell p u) base hb K v ns pu :=
  h.turn (Below.heap_setCell w p u hb (fun e => h1 e.symm)) (own_far h.own h2 u)
theorem asd_of {hb : Nat} {rb : Option Nat} {w w1 w2 : World} (h : Below w.heap.size w w1) (h2 : Asd hb rb w1 w2) : Asd hb rb w w2 :=
  ⟨h2.os.trans h.os, h2.tape.trans h.tape, h2.output.trans h.output, Nat.le_trans h.size h2.size, fun k hk e1 e2 => (h2.block k (Nat.lt_of_lt_of_le hk h.size) e1 e2).trans (h.block k hk)⟩
/-- the nodes behind a Pop -/
def popN (lt : Lab → Lab → Bool) (ns : List Node) : List Node := sinkN lt (ns.length - 1) ((swpN ns 0 (ns.length - 1)).take (ns.length - 1)) 0

set_option maxHeartbeats 1000000 in
theorem pop_nil (w : World) : Calls Try.prog 34 #[.pointer none] w fun e w' => e = .returned (.tuple #[.agg (la ⟨0, 0, 0⟩), .bool false]) ∧ Below w.heap.size w w' := by
  obtain ⟨W, hW⟩ : ∃ W, W = w.alloc (.cells #[.int .i64 0, .int .i64 0, .int .i64 0] 57) := ⟨_, rfl⟩
  have hbx : Box2 W w.heap.size ⟨0, 0, 0⟩ := by rw [hW]; exact Box2.new w ⟨0, 0, 0⟩ _ _ rfl
  have hbW : Below w.heap.size w W := by rw [hW]; exact al1 _ _
  have HS : Hid (w.heap.size < W.heap.size) := Lib.hid hbx.lt
  have HX := Lib.hid hbx
  have HW := Lib.hid hbW
  clear hbx hbW
  go_enter Try.func34, Try.ntmps34
  go_wp2_with fail
  rw [← hW]
  clear hW
  refine (peek_nil _).mono ?_
  rintro e w1 ⟨rfl, hb1⟩
  have HX1 := Lib.hid ((HX.out.stays hb1).stays (al1 w1 (.cells #[.int .i64 0, .int .i64 0, .int .i64 0] 57)))
  have HB1 := Lib.hid (balloc (bthen HW.out hb1 (Nat.le_refl _)) (.cells #[.int .i64 0, .int .i64 0, .int .i64 0] 57) (Nat.le_refl _))
  clear hb1
  obtain ⟨x0, x1, x2, x3, x4, x5⟩ := HX1.out
  go_wp2
  refine bodyPost_ret (v := .tuple #[.agg (la ⟨0, 0, 0⟩), .bool false]) ?_ rfl ⟨rfl, ((HB1.out.setCell (Nat.le_refl _) _).setCell (Nat.le_refl _) _).setCell (Nat.le_refl _) _⟩
  simp [results, Try.results34, go_sem, x0, x1, x2]
set_option maxHeartbeats 1000000 in
theorem pop_zero (K : FuncId) (base hb : Nat) (v : Value) (ns : List Node) (pu : Int) (w : World) (h : HeapAt w base hb K v ns pu) (hn : ns.length = 0) : Calls Try.prog 34 #[.pointer (some ⟨hb, 0, none⟩)] w fun e w' => e = .returned (.tuple #[.agg (la ⟨0, 0, 0⟩), .bool false]) ∧ Below w.heap.size w w' := by
  obtain ⟨W, hW⟩ : ∃ W, W = w.alloc (.cells #[.int .i64 0, .int .i64 0, .int .i64 0] 57) := ⟨_, rfl⟩
  have hbx : Box2 W w.heap.size ⟨0, 0, 0⟩ := by rw [hW]; exact Box2.new w ⟨0, 0, 0⟩ _ _ rfl
  have hbW : Below w.heap.size w W := by rw [hW]; exact al1 _ _
  have HX := Lib.hid hbx
  have HW := Lib.hid hbW
  have HH := Lib.hid (h.stays hbW)
  have HN := Lib.hid hn
  clear hbx hbW h hn
  go_enter Try.func34, Try.ntmps34
  go_wp2_with fail
  rw [← hW]
  clear hW
  refine (peek_zero K base hb v ns pu _ HH.out HN.out).mono ?_
  rintro e w1 ⟨rfl, hb1⟩
  have HX1 := Lib.hid ((HX.out.stays hb1).stays (al1 w1 (.cells #[.int .i64 0, .int .i64 0, .int .i64 0] 57)))
  have HB1 := Lib.hid (balloc (bthen HW.out hb1 (Nat.le_refl _)) (.cells #[.int .i64 0, .int .i64 0, .int .i64 0] 57) (Nat.le_refl _))
  clear hb1
  obtain ⟨x0, x1, x2, x3, x4, x5⟩ := HX1.out
  go_wp2
  refine bodyPost_ret (v := .tuple #[.agg (la ⟨0, 0, 0⟩), .bool false]) ?_ rfl ⟨rfl, ((HB1.out.setCell (Nat.le_refl _) _).setCell (Nat.le_refl _) _).setCell (Nat.le_refl _) _⟩
  simp [results, Try.results34, go_sem, x0, x1, x2]

set_option maxHeartbeats 2000000 in
theorem pop_any (K : FuncId) (lt : Lab → Lab → Bool) (hK : LessFn K lt) (base hb : Nat) (v : Value) (ns : List Node) (pu : Int) (w : World) (h : HeapAt w base hb K v ns pu) (m : Nat) (hn : ns.length = m + 1) (h1000 : m ≤ 1000) : Calls Try.prog 34 #[.pointer (some ⟨hb, 0, none⟩)] w fun e w' => e = .returned (.tuple #[.agg (la (gn ns 0).p), .bool true]) ∧ ∃ v', HeapAt w' base hb K v' (popN lt ns) pu ∧ v'.ownBlock = v.ownBlock ∧ Asd hb v.ownBlock w w' := by
  obtain ⟨W, hW⟩ : ∃ W, W = w.alloc (.cells #[.int .i64 0, .int .i64 0, .int .i64 0] 57) := ⟨_, rfl⟩
  have hbx : Box2 W w.heap.size ⟨0, 0, 0⟩ := by rw [hW]; exact Box2.new w ⟨0, 0, 0⟩ _ _ rfl
  have hbW : Below w.heap.size w W := by rw [hW]; exact al1 _ _
  obtain ⟨g, c, hv, hc, hg, hgb, _⟩ := h.some_ (by omega)
  rw [hn] at hv hc
  subst hv
  have hgl : g < w.heap.size := (h.own.lt g rfl).2
  have HX := Lib.hid hbx
  have HW := Lib.hid hbW
  have HS := Lib.hid (show w.heap.size < W.heap.size from hbx.lt)
  have HH := Lib.hid (h.stays hbW)
  have HN := Lib.hid hn
  have HK := Lib.hid hK
  have HLH := Lib.hid h.lt
  have HGL := Lib.hid hgl
  have HP : Hid (popN lt ns = sinkN lt m ((swpN ns 0 m).take m) 0) := Lib.hid (by unfold popN; rw [hn]; rfl)
  clear hbx hbW h hn hK hgl
  go_enter Try.func34, Try.ntmps34
  go_wp2_with fail
  rw [← hW]
  clear hW
  refine (peek_any K base hb _ ns pu _ HH.out (m + 1) HN.out (by omega)).mono ?_
  rintro e w1 ⟨rfl, hb1⟩
  obtain ⟨W2, hW2⟩ : ∃ W2, W2 = w1.alloc (.cells #[.int .i64 (gn ns 0).p.node, .int .i64 (gn ns 0).p.len, .int .i64 (gn ns 0).p.edges] 57) := ⟨_, rfl⟩
  have hb2 : Below W.heap.size W W2 := by rw [hW2]; exact balloc hb1 _ (Nat.le_refl _)
  have HX2 := Lib.hid (HX.out.stays hb2)
  have HY2 : Hid (Box2 W2 w1.heap.size (gn ns 0).p) := Lib.hid (by rw [hW2]; exact Box2.new w1 _ _ _ rfl)
  have HB2 := Lib.hid (bthen HW.out hb2 (Nat.le_refl _))
  have HH2 := Lib.hid (HH.out.stays hb2)
  have HS1 := Lib.hid (Nat.lt_of_lt_of_le HS.out hb1.size)
  have hcast : ((m + 1 : Nat) : Int) - 1 = (m : Int) := by omega
  clear hb1 hb2
  have c1 := HH2.out.row
  go_upto_region 4 with fail
  rw [← hW2]
  clear hW2
  go_wp2_with fail
  refine (swap_at K base hb _ ns pu _ HH2.out (m + 1) 0 m 0 (m : Int) HN.out rfl rfl (by omega) (by omega)).mono ?_
  rintro e w3 ⟨rfl, hh3, ha3⟩
  have HX3 := Lib.hid (HX2.out.asd ha3 (Nat.ne_of_gt HLH.out) (by have := HGL.out; simp [Value.ownBlock]; omega))
  have HY3 := Lib.hid (HY2.out.asd ha3 (by have := HLH.out; have := HS1.out; omega) (by have := HGL.out; have := HS1.out; simp [Value.ownBlock]; omega))
  have HH3 := Lib.hid hh3
  have HA3 := Lib.hid ha3
  clear hh3 ha3 c1
  have c1 := HH3.out.row
  have f1 := HH3.out.fr1
  have HH4 := Lib.hid (HH3.out.shrink (by rw [swpN_len]; exact HN.out))
  have m0 : (0 : Int) ≤ (m : Int) := by omega
  have mc : (m : Int) ≤ (c : Int) := by omega
  go_upto_region 7 with fail
  have hlen : ((swpN ns 0 m).take m).length = m := by rw [List.length_take, swpN_len, HN.out]; omega
  have HLEN := Lib.hid hlen
  have ha4 : Asd hb (some g) w3 (w3.setCell ⟨hb, 1, none⟩ (.slice (some ⟨g, 0, none⟩) m c)) := (Asd.refl _ _ _).setCell _ _ (.inl rfl)
  have HX4 := Lib.hid (HX3.out.asd ha4 (Nat.ne_of_gt HLH.out) (by have := HGL.out; simp; omega))
  have HY4 := Lib.hid (HY3.out.asd ha4 (by have := HLH.out; have := HS1.out; omega) (by have := HGL.out; have := HS1.out; simp; omega))
  have HA4 := Lib.hid (HA3.out.setCell ⟨hb, 1, none⟩ (.slice (some ⟨g, 0, none⟩) m c) (.inl rfl))
  clear ha4 c1 f1 hlen
  go_wp2_with fail
  refine (sink_any K lt HK.out base hb _ _ pu _ HH4.out m HLEN.out h1000).mono ?_
  rintro e w5 ⟨rfl, hh5, ha5⟩
  have HX5 := Lib.hid (HX4.out.asd ha5 (Nat.ne_of_gt HLH.out) (by have := HGL.out; simp [Value.ownBlock]; omega))
  have HY5 := Lib.hid (HY4.out.asd ha5 (by have := HLH.out; have := HS1.out; omega) (by have := HGL.out; have := HS1.out; simp [Value.ownBlock]; omega))
  have HH5 := Lib.hid hh5
  have HA5 := Lib.hid (HA4.out.trans ha5 (fun k hk => .inl rfl))
  clear hh5 ha5
  obtain ⟨x0, x1, x2, x3, x4, x5⟩ := HX5.out
  obtain ⟨y0, y1, y2, _, _, _⟩ := HY5.out
  have hne := HS1.out
  go_wp2
  refine bodyPost_ret (v := .tuple #[.agg (la (gn ns 0).p), .bool true]) ?_ rfl ⟨rfl, .slice (some ⟨g, 0, none⟩) m c, ?_, rfl, ?_⟩
  · simp [results, Try.results34, go_sem, x0, x1, x2]
  · rw [HP.out]
    exact ((HH5.out.far _ _ (Nat.ne_of_gt HLH.out) (by have := HGL.out; simp [Value.ownBlock]; omega)).far _ _ (Nat.ne_of_gt HLH.out) (by have := HGL.out; simp [Value.ownBlock]; omega)).far _ _ (Nat.ne_of_gt HLH.out) (by have := HGL.out; simp [Value.ownBlock]; omega)
  · exact ((asd_of HB2.out HA5.out).setNew _ _ (Nat.le_refl _)).setNew _ _ (Nat.le_refl _) |>.setNew _ _ (Nat.le_refl _)

theorem new_nil (w : World) : Calls Try.prog 31 #[.nilFunc] w fun e w' => e = .returned (.pointer none) ∧ w = w' := by
  have e1 := fun w => eql_nil w 62 Try.underlying62
  have e2 := fun w K => eql_fn w 62 K Try.underlying62
  go_enter Try.func31, Try.ntmps31
  go_wp2
  go_ret
  exact ⟨rfl, rfl⟩
/-- what a call that makes a heap leaves -/
def MadeHeap (w : World) (lt : Lab → Lab → Bool) (e : Ending) (w' : World) : Prop :=
  ∃ K, LessFn K lt ∧ e = .returned (.pointer (some ⟨w.heap.size, 0, none⟩)) ∧ HeapAt w' w.heap.size w.heap.size K (.slice none 0 0) [] 0 ∧ Below w.heap.size w w'
theorem heap_new (w : World) (K : FuncId) (t : TypeId) : HeapAt (w.alloc (.cells #[.func (.func K) #[] #[], .slice none 0 0, .int .i64 0] t)) w.heap.size w.heap.size K (.slice none 0 0) [] 0 := by
  refine ⟨Nat.le_refl _, ?_, ?_, ?_, ?_, ?_, World.ownsRow_nil _ _ _ _, by simp [Value.ownBlock]⟩
  · rw [World.cell?_alloc_at _ _ _ _ rfl]; rfl
  · rw [World.cell?_alloc_at _ _ _ _ rfl]; rfl
  · rw [World.cell?_alloc_at _ _ _ _ rfl]; rfl
  · unfold World.frozen?
    rw [show (w.alloc _).heap[w.heap.size]? = _ from heap_alloc_new w _]
    rfl
  · unfold World.frozen?
    rw [show (w.alloc _).heap[w.heap.size]? = _ from heap_alloc_new w _]
    rfl
theorem new_any (lt : Lab → Lab → Bool) (K : FuncId) (hK : LessFn K lt) (w : World) : Calls Try.prog 31 #[.func (.func K) #[] #[]] w fun e w' => MadeHeap w lt e w' := by
  have HK := Lib.hid hK
  clear hK
  have e1 := fun w => eql_nil w 62 Try.underlying62
  have e2 := fun w K => eql_fn w 62 K Try.underlying62
  go_enter Try.func31, Try.ntmps31
  go_wp2
  go_ret
  exact ⟨K, HK.out, rfl, heap_new w K _, al1 _ _⟩
end Go.Proofs.Ytabhinmodnmllaa
