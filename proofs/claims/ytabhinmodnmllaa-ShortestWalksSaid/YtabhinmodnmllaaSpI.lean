/-
  neighbors of the edges turned round. Printed by gen/sp3b.py.
-/
import Derived.Test.YtabhinmodnmllaaSpH
namespace Go.Proofs.Ytabhinmodnmllaa
open Go.RowKit

theorem Grp.other {w w' : World} {base B cnt X : Nat} {G : Int → Value} {L : Int → List Edge} (h : Grp w base B cnt G L) (hg : w.grownBy w' (some X)) (h1 : B ≠ X) (h2 : ∀ i, (G i).ownBlock ≠ some X) : Grp w' base B cnt G L :=
  ⟨h.map.kept hg (fun e => h1 (by injection e)), h.hB, fun i => (h.rows i).kept hg (.inr (h2 i)), h.apart⟩
theorem grown_two (w : World) (X : Nat) (u v : Value) : w.grownBy ((w.setCell ⟨X, 0, none⟩ u).setCell ⟨X, 1, none⟩ v) (some X) :=
  ⟨rfl, rfl, rfl, by simp [World.setCell], fun k _ hk => by
    have h : k ≠ X := fun e => hk (by rw [e])
    rw [Below.heap_setCell _ _ _ _ h, Below.heap_setCell _ _ _ _ h]⟩
theorem BoxE.turn {w : World} {B : Nat} {x : Edge} (h : BoxE w B x) : BoxE ((w.setCell ⟨B, 0, none⟩ (.int .i64 x.dst)).setCell ⟨B, 1, none⟩ (.int .i64 x.src)) B (turnE x) := by
  have n1 : ∀ (a b : Nat), a ≠ b → (⟨B, a, none⟩ : Addr) ≠ ⟨B, b, none⟩ := fun a b h e => by injection e with _ e; exact h e
  exact ⟨(World.cell?_setCell_other _ _ _ _ (n1 1 0 (by omega))).trans (World.cell?_setCell_same _ _ _ h.1), World.cell?_setCell_same _ _ _ ((World.cell?_setCell_other _ _ _ _ (n1 0 1 (by omega))).trans h.2.1), (World.cell?_setCell_other _ _ _ _ (n1 1 2 (by omega))).trans ((World.cell?_setCell_other _ _ _ _ (n1 0 2 (by omega))).trans h.2.2)⟩

set_option maxRecDepth 100000 in
set_option maxHeartbeats 2000000 in
theorem nbr_true (A : Option Addr) (n c : Nat) (l : List Edge) (w : World) (hx : SAt edgeC w A n l) (hn : n ≤ 5000) (hi : ∀ k, k < n → I64 (ge l k).dst) :
    Calls Try.prog 26 #[.slice A n c, .bool true] w fun e w' => e = .returned (.map (some w.heap.size)) ∧ (∃ G, Grp w' (w.heap.size + 1) w.heap.size n G (fromE (turnL l))) ∧ Below w.heap.size w w' := by
  obtain ⟨i0, hi0, hz0, hz1, hz2⟩ := info_parts edge1_info
  have HX := Lib.hid hx
  have HI := Lib.hid hi
  clear hx hi
  have hmm := @run_makeMap Try.prog
  go_enter Try.func26, Try.ntmps26
  go_wp2
  go_loopw [11] (fun i wr => ∃ (k : Nat) (G : Int → Value), k ≤ n ∧ i = .int .i64 k ∧ Hid (Grp wr (w.heap.size + 1) w.heap.size k G (fromE (turnL (l.take k)))) ∧ Hid (Below w.heap.size w wr)) (fun i _ => n - (intOf i).toNat)
  case atStart => exact ⟨0, _, by omega, rfl, Lib.hid ⟨ValMap.made w, by omega, fun i => World.ownsRow_nil _ _ _ _, fun i j _ q h => by simp [Value.ownBlock] at h⟩, Lib.hid (al1 _ _)⟩
  case round =>
    obtain ⟨k, G, hkn, rfl, HG, HB⟩ := hrel
    have k0 : (0 : Int) ≤ (k : Int) := by omega
    by_cases hlt : k < n
    · have hlt' : (k : Int) < (n : Int) := by omega
      obtain ⟨b, o, hA, _⟩ := HX.out.at_ hlt
      subst hA
      obtain ⟨c0, c1, c2⟩ := edge_cells (HX.out.stays HB.out) hlt
      obtain ⟨X, hX⟩ : ∃ X, X = wr.heap.size := ⟨_, rfl⟩
      obtain ⟨W0, hW⟩ : ∃ W0, W0 = wr.alloc (.cells #[.int .i64 (ge l k).src, .int .i64 (ge l k).dst, .int .i64 (ge l k).wt] 47) := ⟨_, rfl⟩
      have hbW : Below wr.heap.size wr W0 := by rw [hW]; exact al1 _ _
      have HXB0 : Hid (BoxE W0 X (ge l k)) := Lib.hid (by rw [hW]; exact BoxE.new wr _ _ _ hX)
      have HG0 := Lib.hid (HG.out.stays hbW)
      have HB0 := Lib.hid (bthen HB.out hbW (Nat.le_refl _))
      have hfz : ∀ j, j < 3 → W0.frozen? ⟨X, j, none⟩ = false := fun j hj => by
        rw [hW, hX]
        unfold World.frozen?
        rw [show (wr.alloc _).heap[wr.heap.size]? = _ from heap_alloc_new wr _]
        simp
      have HFZ := Lib.hid hfz
      clear hfz
      obtain ⟨W, hW2⟩ : ∃ W, W = (W0.setCell ⟨X, 0, none⟩ (.int .i64 (ge l k).dst)).setCell ⟨X, 1, none⟩ (.int .i64 (ge l k).src) := ⟨_, rfl⟩
      have HXR : Hid (∀ i q, (G i).ownBlock = some q → q < X) := Lib.hid (fun i q hq => by rw [hX]; exact ((HG.out.rows i).lt q hq).2)
      have hxm : w.heap.size < X := by rw [hX]; exact HG.out.map.lt
      have hgW : W0.grownBy W (some X) := by rw [hW2]; exact grown_two W0 X _ _
      have HGW := Lib.hid (HG0.out.other hgW (by omega) (fun i e => by have := HXR.out i X e; omega))
      have HBW : Hid (Below w.heap.size w W) := Lib.hid (by rw [hW2]; exact (HB0.out.setCell (Nat.le_of_lt hxm) _).setCell (Nat.le_of_lt hxm) _)
      have HXB : Hid (BoxE W X (turnE (ge l k))) := Lib.hid (by rw [hW2]; exact HXB0.out.turn)
      have HXM : Hid (w.heap.size < X) := Lib.hid (by rw [hX]; exact HG.out.map.lt)
      have HUP : Hid (w.heap.size + 1 ≤ W.heap.size) := Lib.hid HGW.out.map.lt
      have HSZ := Lib.hid (from_len (turnL (l.take k)) (ge l k).dst)
      have hszk : (fromE (turnL (l.take k)) (ge l k).dst).length ≤ k := by have := HSZ.out; rw [turnL_len, List.length_take] at this; omega
      have HST := Lib.hid (turn_take HX.out.1 hlt)
      have hl1 := HGW.out.map.look (HI.out k hlt)
      obtain ⟨Ag, cg, hgv, _⟩ := ownsRow_slice (HGW.out.rows (ge l k).dst)
      have HGV := Lib.hid hgv
      rw [hgv] at hl1
      have hl2 : (Instr.lookup 52 (.map (some w.heap.size)) (.int .i64 (ge l k).dst) false).run Try.prog W.drew = .ok (.slice Ag (fromE (turnL (l.take k)) (ge l k).dst).length cg) W.drew := by rw [← hgv]; exact (HGW.out.stays (Below.refl _ _).drew).map.look (HI.out k hlt)
      have hl3 : ∀ ob, (Instr.lookup 52 (.map (some w.heap.size)) (.int .i64 (ge l k).dst) false).run Try.prog (W.alloc ob).drew = .ok (.slice Ag (fromE (turnL (l.take k)) (ge l k).dst).length cg) (W.alloc ob).drew := fun ob => by rw [← hgv]; exact (HGW.out.stays ((al1 W ob).drew)).map.look (HI.out k hlt)
      have hS : W.drew.cell? ⟨X, 0, none⟩ = some (.int .i64 (ge l k).dst) ∧ W.drew.cell? ⟨X, 1, none⟩ = some (.int .i64 (ge l k).src) ∧ W.drew.cell? ⟨X, 2, none⟩ = some (.int .i64 (ge l k).wt) := HXB.out
      have hS2 : ∀ ob, BoxE (W.alloc ob).drew X (turnE (ge l k)) := fun ob => HXB.out.stays ((al1 W ob).drew)
      obtain ⟨ln, hln⟩ : ∃ ln, ln = (fromE (turnL (l.take k)) (ge l k).dst).length := ⟨_, rfl⟩
      rw [← hln] at hl1 hl2 hl3 hszk
      have HLN := Lib.hid hln
      clear hgv hln hbW hxm hgW
      go_upto_region 6 with fail
      rw [← hW, ← hX]
      clear hW hX c0 c1 c2 hl1
      obtain ⟨b0, b1, b2⟩ := HXB0.out
      have f0 := HFZ.out 0 (by omega)
      have f1 := HFZ.out 1 (by omega)
      go_upto_region 7 with fail
      rw [← hW2]
      clear hW2 b0 b1 b2 f0 f1
      go_region_held3 (fun u => u.cell? ⟨X, 0, none⟩ = some (.int .i64 (ge l k).dst) ∧ u.cell? ⟨X, 1, none⟩ = some (.int .i64 (ge l k).src) ∧ u.cell? ⟨X, 2, none⟩ = some (.int .i64 (ge l k).wt)) ((first | exact hS | exact hS2 _ | exact hS8 | exact hS9)) ((first | (refine step_append_own_at rfl (.tmp 28) (.tmp 30) 29 rfl (w.heap.size + 1) 47 i0 (.agg #[.int .i64 0, .int .i64 0, .int .i64 0]) edgeC.sz 24 Try.underlying29 hi0 hz0 hz1 hz2 rfl (by decide) (.slice Ag ln cg) ln (edgeC.all (fromE (turnL (l.take k)) (ge l k).dst)) (by simp [Act.eval]) (show (World.alloc W.drew _).ownsRow _ _ _ _ _ _ from (by have := HGW.out.rows (ge l k).dst; rw [HGV.out, ← HLN.out] at this; exact this.alloc _)) ⟨W.heap.size, 0, none⟩ 1 1 (edgeC.cs (turnE (ge l k))) (by simp [Act.eval]) rfl (cs_new edgeC W.drew (turnE (ge l k)) _ _ rfl) (edgeC.one _) (by unfold maxLen; omega) (by omega) (by have := HUP.out; simp; omega) ?_; intro v8 w8 hown8 hg8 hr8; obtain ⟨A8, c8, rfl, _⟩ := ownsRow_slice hown8; obtain ⟨w9, hrun9, hG9, hg9⟩ := (HGW.out.stays (Below.refl _ _).drew).add (y := turnE (ge l k)) (HI.out k hlt) (by unfold maxLen; omega) (by rw [← HLN.out]; exact hown8) (by rw [HGV.out, ← HLN.out]; exact hg8) (by rw [HGV.out, ← HLN.out]; exact hr8); have hS8 : BoxE w8 X (turnE (ge l k)) := (hS2 _).of_block (hg8.block X (hS2 _).lt (fun e => by have := HXR.out (ge l k).dst X (by rw [HGV.out, ← HLN.out]; exact e.symm); omega)); have hS9 : BoxE w9 X (turnE (ge l k)) := hS8.of_block (hg9.block X hS8.lt (fun e => by injection e with e; have := HXM.out; omega)); have HGR9 := Lib.hid hG9; have HB9 : Hid (Below w.heap.size w w9) := Lib.hid ((below_app (HBW.out.drew) (show w.heap.size ≤ W.drew.heap.size from HBW.out.size) (Nat.le_succ _) (show W.drew.ownsRow (w.heap.size + 1) 47 edgeC.sz (.slice Ag ln cg) ln (edgeC.all (fromE (turnL (l.take k)) (ge l k).dst)) from (by have := HGW.out.rows (ge l k).dst; rw [HGV.out, ← HLN.out] at this; exact this)) hg8).grown hg9 (Nat.le_trans HBW.out.size (Nat.le_trans (by simp) hg8.size)) (fun q hq => by injection hq with hq; omega)); clear hG9 hown8 hg8 hr8 hg9)))
      all_goals
        have HG9 : Hid (Grp w9 (w.heap.size + 1) w.heap.size (k + 1) _ (fromE (turnL (l.take (k + 1))))) := Lib.hid (by rw [HST.out, from_add]; exact HGR9.out)
        go_wp2
        go_roundw
        case rel => exact ⟨k + 1, _, by omega, by go_num, HG9, HB9⟩
        case measure => simp [intOf]; omega
    · obtain rfl : k = n := by omega
      have hd0 : ¬ ((k : Int) < (k : Int)) := by omega
      have HEND : Hid (l.take k = l) := Lib.hid (List.take_of_length_le (by rw [HX.out.1]; omega))
      go_wp2
      go_ret
      exact ⟨rfl, ⟨G, by rw [← HEND.out]; exact HG.out⟩, HB.out⟩
end Go.Proofs.Ytabhinmodnmllaa
