/-
  neighbors: a map of slices of edges. Printed by gen/sp3.py.
-/
import Derived.Test.YtabhinmodnmllaaSpG
import Derived.Maps.OwnOps
import Derived.Maps.Keyed
import Derived.Maps.Views
namespace Go.Proofs.Ytabhinmodnmllaa
open Go.RowKit

/-- the two rows lie in different blocks -/
def Apart (v1 v2 : Value) : Prop := ∀ q, v1.ownBlock = some q → v2.ownBlock ≠ some q
theorem Apart.symm {v1 v2 : Value} (h : Apart v1 v2) : Apart v2 v1 := fun q h1 h2 => h q h2 h1
theorem Apart.ne {v1 v2 : Value} (h : Apart v1 v2) : v2.ownBlock = none ∨ v2.ownBlock ≠ v1.ownBlock := by
  cases e : v2.ownBlock with
  | none => exact .inl rfl
  | some q => exact .inr fun e2 => h q e2.symm e
theorem Apart.app {v1 v2 v8 : Value} {S : Nat} (h : Apart v1 v2) (hr : v8.ownBlock = v1.ownBlock ∨ ∀ k, v8.ownBlock = some k → S ≤ k) (hc : ∀ q, v2.ownBlock = some q → q < S) : Apart v8 v2 := by
  intro q h1 h2
  rcases hr with hr | hr
  · exact h q (hr.symm.trans h1) h2
  · have := hr q h1
    have := hc q h2
    omega
theorem own_other {w w' : World} {base e size n : Nat} {v v1 : Value} {xs : List Value} {tmp : Obj} (h : w.ownsRow base e size v n xs) (hg : (w.alloc tmp).grownBy w' v1.ownBlock) (ha : Apart v1 v) : w'.ownsRow base e size v n xs := (h.alloc tmp).kept hg ha.ne
/-- a value as a datum of its own -/
def idR (v : Value) : Option (DataW Value × List MemPlace) := some (.held v, [])
theorem keyedI : Maps.Keyed Try.prog 3 := Maps.int_keyed Try.underlying3
theorem zeroE (w : World) : (zeroValue 29).run Try.prog w = .ok (.slice none 0 0) w := by kernel_rfl
/-- block B is a map that holds G i at i -/
def ValMap (w : World) (B n : Nat) (G : Int → Value) : Prop :=
  ∃ D : DataW Value, w.ownsMap Try.prog 3 idR B n D ∧ Maps.IsMap D ∧ ∀ i : Int, D.atKey (.int .i64 i) (.held (.slice none 0 0)) = .held (G i)
theorem wf_of {i : Int} (h : I64 i) : (Lit.int .i64 i).wf = true := by
  simpa [I64, Lit.wf, IntKind.min, IntKind.max, IntKind.signed, IntKind.bits] using h
theorem isMap_of {w : World} {B n : Nat} {D : DataW Value} (h : w.ownsMap Try.prog 3 idR B n D) : Maps.IsMap D := by
  obtain ⟨es, clock, _, _, _, hD⟩ := h
  exact ⟨_, hD⟩
theorem ValMap.made (w : World) : ValMap (w.alloc (.map #[] 0)) w.heap.size 0 (fun _ => .slice none 0 0) := ⟨.map [], World.ownsMap_made _ _ _ _, Maps.isMap_empty, fun _ => rfl⟩
theorem ValMap.kept {w w' : World} {B n : Nat} {G : Int → Value} {row : Option Nat} (h : ValMap w B n G) (hg : w.grownBy w' row) (hne : some B ≠ row) : ValMap w' B n G := by
  obtain ⟨D, h1, h2, h3⟩ := h
  exact ⟨D, h1.kept hg hne, h2, h3⟩
theorem ValMap.lt {w : World} {B n : Nat} {G : Int → Value} (h : ValMap w B n G) : B < w.heap.size := by
  obtain ⟨D, h1, _⟩ := h
  exact h1.lt
theorem ValMap.stays {w w' : World} {B n : Nat} {G : Int → Value} (h : ValMap w B n G) (hb : Below w.heap.size w w') : ValMap w' B n G :=
  h.kept (row := none) ⟨hb.os, hb.tape, hb.output, hb.size, fun k hk _ => hb.block k hk⟩ (by simp)
theorem ValMap.look {w : World} {B n : Nat} {G : Int → Value} (h : ValMap w B n G) {i : Int} (hi : I64 i) : (Instr.lookup 52 (.map (some B)) (.int .i64 i) false).run Try.prog w = .ok (G i) w := by
  obtain ⟨D, h1, _, h3⟩ := h
  obtain ⟨v, ps, hrun, hv⟩ := h1.lookup keyedI Try.underlying52 (zeroE w) (rfl : idR (.slice none 0 0) = some (.held (.slice none 0 0), [])) (Maps.keyOf_int_mk Try.underlying3 (wf_of hi))
  rw [h3 i] at hv
  injection hv with hv
  injection hv with hv
  injection hv with hv
  rw [hrun, hv]
theorem ValMap.put {w : World} {B n : Nat} {G : Int → Value} (h : ValMap w B n G) {i : Int} (hi : I64 i) (hn : n < maxLen) (v : Value) : ∃ w', (Instr.mapUpdate 52 (.map (some B)) (.int .i64 i) v).run Try.prog w = .ok () w' ∧ ValMap w' B (n + 1) (fun j => if j = i then v else G j) ∧ w.grownBy w' (some B) := by
  obtain ⟨D, h1, h2, h3⟩ := h
  obtain ⟨w', hrun, r1, r2⟩ := h1.update keyedI Try.underlying52 hn (Maps.keyOf_int_mk Try.underlying3 (wf_of hi)) (rfl : idR v = some (.held v, []))
  refine ⟨w', hrun, ⟨_, r1, isMap_of r1, fun j => ?_⟩, r2⟩
  show (D.put (.int .i64 i) (.held v)).atKey (.int .i64 j) (.held (.slice none 0 0)) = DataW.held (if j = i then v else G j)
  by_cases e : j = i
  · subst e
    rw [if_pos rfl]
    exact Maps.atKey_put_same h2 (show WideAt.IsKeyLit (.int .i64 j) from trivial) _ _
  · rw [if_neg e, Maps.atKey_put_other (fun e2 => e (by injection e2))]
    exact h3 j
/-- a map of rows of edges -/
structure Grp (w : World) (base B cnt : Nat) (G : Int → Value) (L : Int → List Edge) : Prop where
  map : ValMap w B cnt G
  hB : B < base
  rows : ∀ i, w.ownsRow base 47 edgeC.sz (G i) (L i).length (edgeC.all (L i))
  apart : ∀ i j, i ≠ j → Apart (G i) (G j)
theorem Grp.stays {w w' : World} {base B cnt : Nat} {G : Int → Value} {L : Int → List Edge} (h : Grp w base B cnt G L) (hb : Below w.heap.size w w') : Grp w' base B cnt G L :=
  ⟨h.map.stays hb, h.hB, fun i => ownsRow_stays (h.rows i) hb, h.apart⟩
theorem Grp.ne {w : World} {base B cnt : Nat} {G : Int → Value} {L : Int → List Edge} (h : Grp w base B cnt G L) (i : Int) : (G i).ownBlock ≠ some B := fun e => by
  have h1 := ((h.rows i).lt B e).1
  have h2 := h.hB
  omega
/-- one edge more at i -/
def addAt (L : Int → List Edge) (i : Int) (y : Edge) : Int → List Edge := fun j => if j = i then L j ++ [y] else L j
theorem Grp.add {w w8 : World} {base B cnt : Nat} {G : Int → Value} {L : Int → List Edge} {tmp : Obj} {i : Int} {y : Edge} {v8 : Value} (h : Grp w base B cnt G L) (hi : I64 i) (hn : cnt < maxLen)
    (hown : w8.ownsRow base 47 edgeC.sz v8 ((L i).length + 1) (edgeC.all (L i) ++ edgeC.cs y)) (hg : (w.alloc tmp).grownBy w8 (G i).ownBlock) (hr : v8.ownBlock = (G i).ownBlock ∨ ∀ k, v8.ownBlock = some k → (w.alloc tmp).heap.size ≤ k) :
    ∃ w9, (Instr.mapUpdate 52 (.map (some B)) (.int .i64 i) v8).run Try.prog w8 = .ok () w9 ∧ Grp w9 base B (cnt + 1) (fun j => if j = i then v8 else G j) (addAt L i y) ∧ w8.grownBy w9 (some B) := by
  have hm : ValMap w8 B cnt G := (h.map.stays (al1 w tmp)).kept hg (fun e => h.ne i e.symm)
  obtain ⟨w9, hrun, hm9, hg9⟩ := hm.put hi hn v8
  have hne8 : v8.ownBlock ≠ some B := fun e => by
    rcases hr with hr | hr
    · exact h.ne i (hr.symm.trans e)
    · have h1 := hr B e
      have h2 := h.map.lt
      simp at h1
      omega
  refine ⟨w9, hrun, ⟨hm9, h.hB, fun j => ?_, fun j k hjk => ?_⟩, hg9⟩
  · by_cases e : j = i
    · subst e
      simp only [addAt, if_pos]
      rw [List.length_append, edgeC.all_app, edgeC.all_one]
      exact hown.kept hg9 (.inr hne8)
    · simp only [addAt, if_neg e]
      exact (own_other (h.rows j) hg (h.apart i j (fun e2 => e e2.symm))).kept hg9 (.inr (h.ne j))
  · have hfr : ∀ j, j ≠ i → Apart v8 (G j) := fun j hj => (h.apart i j (fun e => hj e.symm)).app hr (fun q hq => by have := ((h.rows j).lt q hq).2; simp; omega)
    by_cases e1 : j = i
    · simp only [if_pos e1, if_neg (fun e2 : k = i => hjk (e1.trans e2.symm))]
      exact hfr k (fun e2 => hjk (e1.trans e2.symm))
    · by_cases e2 : k = i
      · simp only [if_neg e1, if_pos e2]
        exact (hfr j e1).symm
      · simp only [if_neg e1, if_neg e2]
        exact h.apart j k hjk
/-- the edges from i -/
def fromE (l : List Edge) (i : Int) : List Edge := l.filter fun e => e.src == i
theorem from_add (l : List Edge) (y : Edge) : fromE (l ++ [y]) = addAt (fromE l) y.src y := by
  funext j
  unfold fromE addAt
  rw [List.filter_append]
  by_cases e : j = y.src
  · subst e
    simp
  · have : (y.src == j) = false := by rw [beq_eq_false_iff_ne]; exact fun e2 => e e2.symm
    simp [this, e]
theorem from_len (l : List Edge) (i : Int) : (fromE l i).length ≤ l.length := List.length_filter_le _ _
/-- a boxed edge that may be written -/
def BoxE (u : World) (B : Nat) (x : Edge) : Prop := u.cell? ⟨B, 0, none⟩ = some (.int .i64 x.src) ∧ u.cell? ⟨B, 1, none⟩ = some (.int .i64 x.dst) ∧ u.cell? ⟨B, 2, none⟩ = some (.int .i64 x.wt)
theorem BoxE.new (w : World) (x : Edge) (t : TypeId) (B : Nat) (hB : B = w.heap.size) : BoxE (w.alloc (.cells #[.int .i64 x.src, .int .i64 x.dst, .int .i64 x.wt] t)) B x := by
  subst hB
  refine ⟨?_, ?_, ?_⟩ <;> (rw [World.cell?_alloc_at _ _ _ _ rfl]; rfl)
theorem BoxE.lt {w : World} {B : Nat} {x : Edge} (h : BoxE w B x) : B < w.heap.size := cell?_block_lt h.1
theorem BoxE.of_block {w w' : World} {B : Nat} {x : Edge} (h : BoxE w B x) (hb : w'.heap[B]? = w.heap[B]?) : BoxE w' B x :=
  ⟨(World.cell?_of_block (a := ⟨B, 0, none⟩) hb).trans h.1, (World.cell?_of_block (a := ⟨B, 1, none⟩) hb).trans h.2.1, (World.cell?_of_block (a := ⟨B, 2, none⟩) hb).trans h.2.2⟩
theorem BoxE.stays {w w' : World} {B : Nat} {x : Edge} (h : BoxE w B x) (hb : Below w.heap.size w w') : BoxE w' B x := h.of_block (hb.block B h.lt)

set_option maxRecDepth 100000 in
set_option maxHeartbeats 2000000 in
theorem nbr_false (A : Option Addr) (n c : Nat) (l : List Edge) (w : World) (hx : SAt edgeC w A n l) (hn : n ≤ 5000) (hi : ∀ k, k < n → I64 (ge l k).src) :
    Calls Try.prog 26 #[.slice A n c, .bool false] w fun e w' => e = .returned (.map (some w.heap.size)) ∧ (∃ G, Grp w' (w.heap.size + 1) w.heap.size n G (fromE l)) ∧ Below w.heap.size w w' := by
  obtain ⟨i0, hi0, hz0, hz1, hz2⟩ := info_parts edge1_info
  have HX := Lib.hid hx
  have HI := Lib.hid hi
  clear hx hi
  have hmm := @run_makeMap Try.prog
  go_enter Try.func26, Try.ntmps26
  go_wp2
  go_loopw [11] (fun i wr => ∃ (k : Nat) (G : Int → Value), k ≤ n ∧ i = .int .i64 k ∧ Hid (Grp wr (w.heap.size + 1) w.heap.size k G (fromE (l.take k))) ∧ Hid (Below w.heap.size w wr)) (fun i _ => n - (intOf i).toNat)
  case atStart => exact ⟨0, _, by omega, rfl, Lib.hid ⟨ValMap.made w, by omega, fun i => World.ownsRow_nil _ _ _ _, fun i j _ q h => by simp [Value.ownBlock] at h⟩, Lib.hid (al1 _ _)⟩
  case round =>
    obtain ⟨k, G, hkn, rfl, HG, HB⟩ := hrel
    have k0 : (0 : Int) ≤ (k : Int) := by omega
    by_cases hlt : k < n
    · have hlt' : (k : Int) < (n : Int) := by omega
      obtain ⟨b, o, hA, _⟩ := HX.out.at_ hlt
      subst hA
      obtain ⟨c0, c1, c2⟩ := edge_cells (HX.out.stays HB.out) hlt
      obtain ⟨X, hX⟩ : ∃ X, X = wr.heap.size := ⟨_, rfl⟩
      obtain ⟨W, hW⟩ : ∃ W, W = wr.alloc (.cells #[.int .i64 (ge l k).src, .int .i64 (ge l k).dst, .int .i64 (ge l k).wt] 47) := ⟨_, rfl⟩
      have hbW : Below wr.heap.size wr W := by rw [hW]; exact al1 _ _
      have HXB : Hid (BoxE W X (ge l k)) := Lib.hid (by rw [hW]; exact BoxE.new wr _ _ _ hX)
      have HGW := Lib.hid (HG.out.stays hbW)
      have HBW := Lib.hid (bthen HB.out hbW (Nat.le_refl _))
      have HXR : Hid (∀ i q, (G i).ownBlock = some q → q < X) := Lib.hid (fun i q hq => by rw [hX]; exact ((HG.out.rows i).lt q hq).2)
      have HXM : Hid (w.heap.size < X) := Lib.hid (by rw [hX]; exact HG.out.map.lt)
      have HUP : Hid (w.heap.size + 1 ≤ W.heap.size) := Lib.hid HGW.out.map.lt
      have HSZ := Lib.hid (from_len (l.take k) (ge l k).src)
      have hszk : (fromE (l.take k) (ge l k).src).length ≤ k := by have := HSZ.out; rw [List.length_take] at this; omega
      have HST := Lib.hid (edgeC.g_take (show k < l.length by rw [HX.out.1]; exact hlt))
      have hl1 := HGW.out.map.look (HI.out k hlt)
      obtain ⟨Ag, cg, hgv, _⟩ := ownsRow_slice (HGW.out.rows (ge l k).src)
      have HGV := Lib.hid hgv
      rw [hgv] at hl1
      have hl2 : (Instr.lookup 52 (.map (some w.heap.size)) (.int .i64 (ge l k).src) false).run Try.prog W.drew = .ok (.slice Ag (fromE (l.take k) (ge l k).src).length cg) W.drew := by rw [← hgv]; exact (HGW.out.stays (Below.refl _ _).drew).map.look (HI.out k hlt)
      have hl3 : ∀ ob, (Instr.lookup 52 (.map (some w.heap.size)) (.int .i64 (ge l k).src) false).run Try.prog (W.alloc ob).drew = .ok (.slice Ag (fromE (l.take k) (ge l k).src).length cg) (W.alloc ob).drew := fun ob => by rw [← hgv]; exact (HGW.out.stays ((al1 W ob).drew)).map.look (HI.out k hlt)
      have hS : W.drew.cell? ⟨X, 0, none⟩ = some (.int .i64 (ge l k).src) ∧ W.drew.cell? ⟨X, 1, none⟩ = some (.int .i64 (ge l k).dst) ∧ W.drew.cell? ⟨X, 2, none⟩ = some (.int .i64 (ge l k).wt) := HXB.out
      have hS2 : ∀ ob, BoxE (W.alloc ob).drew X (ge l k) := fun ob => HXB.out.stays ((al1 W ob).drew)
      obtain ⟨ln, hln⟩ : ∃ ln, ln = (fromE (l.take k) (ge l k).src).length := ⟨_, rfl⟩
      rw [← hln] at hl1 hl2 hl3 hszk
      have HLN := Lib.hid hln
      clear hgv hln hbW
      go_upto_region 7 with fail
      rw [← hW, ← hX]
      clear hW hX c0 c1 c2 hl1
      go_region_held3 (fun u => u.cell? ⟨X, 0, none⟩ = some (.int .i64 (ge l k).src) ∧ u.cell? ⟨X, 1, none⟩ = some (.int .i64 (ge l k).dst) ∧ u.cell? ⟨X, 2, none⟩ = some (.int .i64 (ge l k).wt)) ((first | exact hS | exact hS2 _ | exact hS8 | exact hS9)) ((first | (refine step_append_own_at rfl (.tmp 28) (.tmp 30) 29 rfl (w.heap.size + 1) 47 i0 (.agg #[.int .i64 0, .int .i64 0, .int .i64 0]) edgeC.sz 24 Try.underlying29 hi0 hz0 hz1 hz2 rfl (by decide) (.slice Ag ln cg) ln (edgeC.all (fromE (l.take k) (ge l k).src)) (by simp [Act.eval]) (show (World.alloc W.drew _).ownsRow _ _ _ _ _ _ from (by have := HGW.out.rows (ge l k).src; rw [HGV.out, ← HLN.out] at this; exact this.alloc _)) ⟨W.heap.size, 0, none⟩ 1 1 (edgeC.cs (ge l k)) (by simp [Act.eval]) rfl (cs_new edgeC W.drew (ge l k) _ _ rfl) (edgeC.one _) (by unfold maxLen; omega) (by omega) (by have := HUP.out; simp; omega) ?_; intro v8 w8 hown8 hg8 hr8; obtain ⟨A8, c8, rfl, _⟩ := ownsRow_slice hown8; obtain ⟨w9, hrun9, hG9, hg9⟩ := (HGW.out.stays (Below.refl _ _).drew).add (HI.out k hlt) (by unfold maxLen; omega) (by rw [← HLN.out]; exact hown8) (by rw [HGV.out, ← HLN.out]; exact hg8) (by rw [HGV.out, ← HLN.out]; exact hr8); have hS8 : BoxE w8 X (ge l k) := (hS2 _).of_block (hg8.block X (hS2 _).lt (fun e => by have := HXR.out (ge l k).src X (by rw [HGV.out, ← HLN.out]; exact e.symm); omega)); have hS9 : BoxE w9 X (ge l k) := hS8.of_block (hg9.block X hS8.lt (fun e => by injection e with e; have := HXM.out; omega)); have HGR9 := Lib.hid hG9; have HB9 : Hid (Below w.heap.size w w9) := Lib.hid ((below_app (HBW.out.drew) (show w.heap.size ≤ W.drew.heap.size from HBW.out.size) (Nat.le_succ _) (show W.drew.ownsRow (w.heap.size + 1) 47 edgeC.sz (.slice Ag ln cg) ln (edgeC.all (fromE (l.take k) (ge l k).src)) from (by have := HGW.out.rows (ge l k).src; rw [HGV.out, ← HLN.out] at this; exact this)) hg8).grown hg9 (Nat.le_trans HBW.out.size (Nat.le_trans (by simp) hg8.size)) (fun q hq => by injection hq with hq; omega)); clear hG9 hown8 hg8 hr8 hg9)))
      all_goals
        have HG9 : Hid (Grp w9 (w.heap.size + 1) w.heap.size (k + 1) _ (fromE (l.take (k + 1)))) := Lib.hid (by rw [HST.out, from_add]; exact HGR9.out)
        go_wp2
        go_roundw
        case rel => exact ⟨k + 1, _, by omega, by go_num, HG9, HB9⟩
        case measure => simp [intOf]; omega
    · obtain rfl : k = n := by omega
      have hd0 : ¬ ((k : Int) < (k : Int)) := by omega
      have HEND : Hid (l.take k = l) := Lib.hid (List.take_of_length_le (by rw [HX.out.1]; omega))
      go_wp2
      go_ret
      exact ⟨rfl, ⟨G, by rw [← HEND.out]; exact HG.out⟩, HB.out⟩
end Go.Proofs.Ytabhinmodnmllaa
