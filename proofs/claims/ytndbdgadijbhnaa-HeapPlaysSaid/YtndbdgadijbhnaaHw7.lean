/-
  The walk of HeapPlays. Printed by gen/hpw7.py.
-/
import Derived.Test.YtndbdgadijbhnaaHw3
import Derived.Test.YtndbdgadijbhnaaHw6
import Derived.Test.YtndbdgadijbhnaaHOpen
namespace Go.Proofs.Ytndbdgadijbhnaa
open Go.RowKit

/-- a boxed call -/
def BoxO (u : World) (B : Nat) (x : HOp) : Prop := u.cell? ⟨B, 0, none⟩ = some (.int .i64 x.what) ∧ u.cell? ⟨B, 1, none⟩ = some (.int .i64 x.x.key) ∧ u.cell? ⟨B, 2, none⟩ = some (.int .i64 x.x.mark)
theorem BoxO.new (w : World) (x : HOp) (t : TypeId) (B : Nat) (hB : B = w.heap.size) : BoxO (w.alloc (.cells #[.int .i64 x.what, .int .i64 x.x.key, .int .i64 x.x.mark] t)) B x := by
  subst hB
  refine ⟨?_, ?_, ?_⟩ <;> (rw [World.cell?_alloc_at _ _ _ _ rfl]; rfl)
theorem BoxO.lt {w : World} {B : Nat} {x : HOp} (h : BoxO w B x) : B < w.heap.size := cell?_block_lt h.1
theorem BoxO.of_block {w w' : World} {B : Nat} {x : HOp} (h : BoxO w B x) (hb : w'.heap[B]? = w.heap[B]?) : BoxO w' B x :=
  ⟨(World.cell?_of_block (a := ⟨B, 0, none⟩) hb).trans h.1, (World.cell?_of_block (a := ⟨B, 1, none⟩) hb).trans h.2.1, (World.cell?_of_block (a := ⟨B, 2, none⟩) hb).trans h.2.2⟩
theorem BoxO.stays {w w' : World} {B : Nat} {x : HOp} (h : BoxO w B x) (hb : Below w.heap.size w w') : BoxO w' B x := h.of_block (hb.block B h.lt)
theorem BoxO.asd {w w' : World} {B hb : Nat} {rb : Option Nat} {x : HOp} (h : BoxO w B x) (ha : Asd hb rb w w') (h1 : B ≠ hb) (h2 : some B ≠ rb) : BoxO w' B x := h.of_block (ha.block B h.lt h1 h2)
/-- a row that is no part of the heap, behind a call of the heap -/
theorem own_apart {w w' : World} {base e size n hb : Nat} {v vh : Value} {xs : List Value} (h : w.ownsRow base e size v n xs) (ha : Asd hb vh.ownBlock w w') (h1 : hb < base) (h2 : Apart v vh) : w'.ownsRow base e size v n xs :=
  own_keep h fun k hk => by
    obtain ⟨a, b⟩ := h.lt k hk
    exact ha.block k b (by omega) (fun e => h2 k hk e.symm)
theorem Apart.row {w : World} {v vh v3 : Value} {base e size n : Nat} {xs : List Value} (h : Apart v vh) (hr : RowOk w vh v3) (ho : w.ownsRow base e size v n xs) : Apart v v3 := by
  intro q h1 h2
  rcases hr with hr | hr
  · exact h q h1 (hr.symm.trans h2)
  · have := hr q h2
    have := (ho.lt q h1).2
    omega
theorem Apart.same {v vh v3 : Value} (h : Apart v vh) (hr : v3.ownBlock = vh.ownBlock) : Apart v v3 := fun q h1 h2 => h q h1 (hr.symm.trans h2)
/-- a row made behind the heap's -/
theorem Apart.fresh {w w' : World} {v vh : Value} {e size n : Nat} {xs : List Value} (h : w'.ownsRow w.heap.size e size v n xs) (hh : ∀ q, vh.ownBlock = some q → q < w.heap.size) : Apart v vh := by
  intro q h1 h2
  have := (h.lt q h1).1
  have := hh q h2
  omega
/-- an append onto a row that is no part of the heap does nothing to the heap -/
theorem HeapAt.app {w w' : World} {base hb : Nat} {K : FuncId} {v rv : Value} {ns : List Node} {pu : Int} {tmp : Obj} (h : HeapAt w base hb K v ns pu) (hg : (w.alloc tmp).grownBy w' rv.ownBlock) (h1 : rv.ownBlock ≠ some hb) (h2 : Apart rv v) : HeapAt w' base hb K v ns pu := by
  have h' : HeapAt (w.alloc tmp) base hb K v ns pu := h.stays (al1 _ _)
  exact h'.keep (hg.block hb h'.lt fun e => h1 e.symm) fun k hk => hg.block k (h'.own.lt k hk).2 fun e => h2 k e.symm hk
theorem own_ne {w : World} {base e size n hb : Nat} {v : Value} {xs : List Value} (h : w.ownsRow base e size v n xs) (h1 : hb < base) : v.ownBlock ≠ some hb := fun e => by
  have := (h.lt hb e).1
  omega

set_option maxRecDepth 100000 in
set_option maxHeartbeats 4000000 in
theorem plays_walk (m : Int) (A : Option Addr) (n c : Nat) (xs : List HOp) (w : World) (_h : I64 m) (hx : SAt opC w A n xs) (_g : True) :
    Calls Try.prog 3 #[.int .i64 m, .slice A n c] w fun e w' => e = .returned (.bool true) ∧ Below w.heap.size w w' := by
  obtain ⟨i0, hi, hz0, hz1, hz2⟩ := info_parts pair_info
  have HX := Lib.hid hx
  clear hx
  by_cases hm0 : m < 0
  · go_enter Try.func3, Try.ntmps3
    go_wp2_with fail
    refine (made_any m _).mono ?_
    rintro e w1 ⟨K, hK, rfl, hh1, hb1⟩
    have HB1 := Lib.hid hb1
    clear hK hh1 hb1
    go_wp2_with fail
    refine (example_any _).mono ?_
    rintro e w2 ⟨rfl, hb2⟩
    have HB2 := Lib.hid (bthen HB1.out hb2 (Nat.le_refl _))
    clear hb2
    go_wp2
    go_ret
    exact ⟨rfl, HB2.out⟩
  by_cases hm2 : 2 < m
  · go_enter Try.func3, Try.ntmps3
    go_wp2_with fail
    refine (made_any m _).mono ?_
    rintro e w1 ⟨K, hK, rfl, hh1, hb1⟩
    have HB1 := Lib.hid hb1
    clear hK hh1 hb1
    go_wp2_with fail
    refine (example_any _).mono ?_
    rintro e w2 ⟨rfl, hb2⟩
    have HB2 := Lib.hid (bthen HB1.out hb2 (Nat.le_refl _))
    clear hb2
    go_wp2
    go_ret
    exact ⟨rfl, HB2.out⟩
  by_cases h200 : (200 : Int) < (n : Int)
  · go_enter Try.func3, Try.ntmps3
    go_wp2_with fail
    refine (made_any m _).mono ?_
    rintro e w1 ⟨K, hK, rfl, hh1, hb1⟩
    have HB1 := Lib.hid hb1
    clear hK hh1 hb1
    go_wp2_with fail
    refine (example_any _).mono ?_
    rintro e w2 ⟨rfl, hb2⟩
    have HB2 := Lib.hid (bthen HB1.out hb2 (Nat.le_refl _))
    clear hb2
    go_wp2
    go_ret
    exact ⟨rfl, HB2.out⟩
  have hn200 : n ≤ 200 := by omega
  obtain ⟨f, hf⟩ := keyed_any (m := m) (by omega) (by omega)
  have HF := Lib.hid hf
  clear hf
  go_enter Try.func3, Try.ntmps3
  go_wp2_with fail
  refine (made_any m _).mono ?_
  rintro e w1 ⟨K, hK, rfl, hh1, hb1⟩
  have HK := Lib.hid hK
  have HH1 := Lib.hid hh1
  have HB1 := Lib.hid hb1
  clear hK hh1 hb1
  go_wp2
  go_loopw [6, 34] (fun rv i wr => ∃ (k l pu : Nat) (vj : Value) (nj : List Node) (rk : List Pair), k ≤ n ∧ l ≤ k ∧ pu ≤ k ∧ i = .int .i64 k ∧ Hid (rk.length = l) ∧ Hid (HeapAt wr w.heap.size w.heap.size K vj nj (pu : Nat)) ∧ Hid (Holds (ltP m) nj rk pu) ∧ Hid (wr.ownsRow (w.heap.size + 1) 28 pairC.sz rv l (pairC.all rk)) ∧ Hid (Apart rv vj) ∧ Hid (Below w.heap.size w wr)) (fun _ i _ => n - (intOf i).toNat)
  case atStart => exact ⟨0, 0, 0, _, [], [], by omega, by omega, by omega, rfl, Lib.hid rfl, HH1, Lib.hid (Holds.nil _ _), Lib.hid (World.ownsRow_nil _ _ _ _), Lib.hid (by intro q h; simp [Value.ownBlock] at h), HB1⟩
  case round =>
    obtain ⟨k, l, pu, vj, nj, rk, hkn, hlk, hpk, rfl, HRL, HH, HHO, HO, HAP, HB⟩ := hrel
    have k0 : (0 : Int) ≤ (k : Int) := by omega
    have HLH : Hid (w.heap.size < wr.heap.size) := Lib.hid HH.out.lt
    obtain ⟨Ar, cr, hrv, hlc⟩ := ownsRow_slice HO.out
    subst hrv
    by_cases hlt : k < n
    · have hlt' : (k : Int) < (n : Int) := by omega
      obtain ⟨b, o, hA, _⟩ := HX.out.at_ hlt
      subst hA
      obtain ⟨c0, c1, c2⟩ := op_cells (HX.out.stays HB.out) hlt
      obtain ⟨X, hX⟩ : ∃ X, X = wr.heap.size := ⟨_, rfl⟩
      obtain ⟨W, hW⟩ : ∃ W, W = wr.alloc (.cells #[.int .i64 (gop xs k).what, .int .i64 (gop xs k).x.key, .int .i64 (gop xs k).x.mark] 30) := ⟨_, rfl⟩
      have hbW : Below wr.heap.size wr W := by rw [hW]; exact al1 _ _
      have HXO : Hid (BoxO W X (gop xs k)) := Lib.hid (by rw [hW]; exact BoxO.new wr _ _ _ hX)
      have HXH : Hid (X ≠ w.heap.size) := Lib.hid (by have := HLH.out; omega)
      have HXR : Hid (some X ≠ vj.ownBlock) := Lib.hid (fun e => by have := heap_row_lt HH.out e.symm; omega)
      have HHW := Lib.hid (HH.out.stays hbW)
      have HOW := Lib.hid (ownsRow_stays HO.out hbW)
      have HBW := Lib.hid (bthen HB.out hbW (Nat.le_refl _))
      have HNL := Lib.hid (HHO.out.len.trans HRL.out)
      have HUP : Hid (w.heap.size + 1 ≤ W.heap.size) := Lib.hid (by have := hbW.size; have := HLH.out; omega)
      go_upto_region 8 with fail
      rw [← hW, ← hX]
      clear hW hX c0 c1 c2 hbW HH HO HB
      cases l with
      | succ l2 =>
        have hpos : (0 : Int) < ((l2 + 1 : Nat) : Int) := by omega
        have hpos' : (0 : Int) < (l2 : Int) + 1 := by omega
        go_wp2_with fail
        refine (first_any m Ar (l2 + 1) cr rk _ (SAt.own HOW.out (by decide)) (by omega) (by omega)).mono ?_
        rintro e w2 ⟨rfl, hb2⟩
        obtain ⟨bi, hbi0⟩ : ∃ bi, bi = bestTo (ltP m) rk (l2 + 1) := ⟨_, rfl⟩
        rw [← hbi0]
        have HBI := Lib.hid hbi0
        have hbi : bi < l2 + 1 := by rw [hbi0]; exact bestTo_lt _ _ (by omega)
        have HFST := Lib.hid (HHO.out.first HF.out HRL.out)
        have hbi1 : (0 : Int) ≤ (bi : Int) := by omega
        have hbi2 : (bi : Int) < ((l2 + 1 : Nat) : Int) := by omega
        have hbi3 : (bi : Int) < (l2 : Int) + 1 := by omega
        have HXO := Lib.hid (HXO.out.stays hb2)
        have HHW := Lib.hid (HHW.out.stays hb2)
        have HOW := Lib.hid (ownsRow_stays HOW.out hb2)
        have HBW := Lib.hid (bthen HBW.out hb2 (Nat.le_refl _))
        have HUP := Lib.hid (Nat.le_trans HUP.out hb2.size)
        clear hb2 hbi0
        obtain ⟨x0, x1, x2⟩ := HXO.out
        by_cases hq0 : (gop xs k).what = 0
        · have HQ := Lib.hid hq0
          rw [hq0] at x0
          go_wp2_with fail
          refine (push_any K (ltP m) HK.out _ _ vj nj pu (gop xs k).x _ HHW.out (l2 + 1) HNL.out (by omega) (by omega)).mono ?_
          rintro e w3 ⟨rfl, v3, hh3, hr3, ha3⟩
          have HX3 := Lib.hid (HXO.out.asd ha3 HXH.out HXR.out)
          have HO3 := Lib.hid (own_apart HOW.out ha3 (Nat.lt_succ_self _) HAP.out)
          have HAP3 := Lib.hid (HAP.out.row hr3 HOW.out)
          have HB3 := Lib.hid (HBW.out.trans (HHW.out.below HBW.out.size ha3))
          have HUP3 := Lib.hid (Nat.le_trans HUP.out ha3.size)
          have HH3 := Lib.hid hh3
          have HHO3 := Lib.hid (HHO.out.push HF.out (gop xs k).x)
          have HNL3 : Hid ((pushN (ltP m) nj (gop xs k).x pu).length = (l2 + 1) + 1) := Lib.hid (by rw [pushN_len, HNL.out])
          clear hh3 hr3 ha3 x0 x1 x2
          obtain ⟨x0, x1, x2⟩ := HX3.out
          rw [HQ.out] at x0
          go_wp2_with (at_builtin; refine wpList_append_own_at rfl (.tmp 52) (.tmp 55) 26 rfl (w.heap.size + 1) 28 i0 (.agg #[.int .i64 0, .int .i64 0]) pairC.sz 16 Try.underlying26 hi hz0 hz1 hz2 rfl (by decide) _ _ _ rfl (HO3.out.alloc _) ⟨_, 0, none⟩ 1 1 (pairC.cs (gop xs k).x) rfl rfl (cs_new pairC _ _ _ _ rfl) (pairC.one _) (by unfold maxLen; omega) (by omega) (by have := HUP3.out; simp; omega) ?_; intro v8 w8 hown8 hg8 hr8; obtain ⟨A8, c8, rfl, _⟩ := ownsRow_slice hown8; have HH8 := Lib.hid (HH3.out.app hg8 (own_ne HO3.out (Nat.lt_succ_self _)) HAP3.out); have HAP8 := Lib.hid (HAP3.out.app hr8 (fun q hq => by have := heap_row_lt HH3.out hq; simp; omega)); have HB8 := Lib.hid (below_app HB3.out HB3.out.size (Nat.le_succ _) HO3.out hg8); have HO8 := Lib.hid hown8; clear hown8 hg8 hr8)
          have HO9 : Hid (w8.ownsRow (w.heap.size + 1) 28 pairC.sz (.slice A8 ((l2 + 1) + 1) c8) ((l2 + 1) + 1) (pairC.all (rk ++ [(gop xs k).x]))) := Lib.hid (by rw [pairC.all_app, pairC.all_one]; exact HO8.out)
          have hcc : ((((l2 + 1) + 1 : Nat) : Int) != (((l2 + 1) + 1 : Nat) : Int)) = false := by simp
          go_wp2_with fail
          refine (len_any K _ _ _ _ _ _ HH8.out ((l2 + 1) + 1) HNL3.out).mono ?_
          rintro e w' ⟨rfl, rfl⟩
          go_wp2
          go_roundw
          case rel => exact ⟨k + 1, ((l2 + 1) + 1), (pu + 1), _, _, _, by omega, by omega, by omega, by go_num, Lib.hid (by rw [List.length_append, HRL.out]; rfl), HH8, HHO3, HO9, HAP8, HB8⟩
          case measure => simp [intOf]; omega
        by_cases hq1 : (gop xs k).what = 1
        · have HQ := Lib.hid hq1
          rw [hq1] at x0
          obtain ⟨y, hy⟩ : ∃ y, y = (gn nj 0).p := ⟨_, rfl⟩
          have HY0 := Lib.hid hy
          have HYE : Hid (gp rk bi = y) := Lib.hid (by rw [hy, HBI.out]; exact HFST.out.1.symm)
          clear hy
          go_wp2_with fail
          refine (pop_any K (ltP m) HK.out _ _ vj nj _ _ HHW.out l2 HNL.out (by omega)).mono ?_
          rintro e w3 ⟨rfl, v3, hh3, hv3, ha3⟩
          rw [← HY0.out]
          have HO3 := Lib.hid (own_apart HOW.out ha3 (Nat.lt_succ_self _) HAP.out)
          have HB3 := Lib.hid (HBW.out.trans (HHW.out.below HBW.out.size ha3))
          have HH3 := Lib.hid hh3
          have HAP3 := Lib.hid (HAP.out.same hv3)
          clear hh3 hv3 ha3
          obtain ⟨Y, hY⟩ : ∃ Y, Y = w3.heap.size := ⟨_, rfl⟩
          obtain ⟨W4, hW4⟩ : ∃ W4, W4 = w3.alloc (.cells #[.int .i64 y.key, .int .i64 y.mark] 28) := ⟨_, rfl⟩
          have hb4 : Below w3.heap.size w3 W4 := by rw [hW4]; exact al1 _ _
          have HY4 : Hid (Box2 W4 Y y) := Lib.hid (by rw [hW4]; exact Box2.new w3 y _ _ hY)
          have HH4 := Lib.hid (HH3.out.stays hb4)
          have HO4 := Lib.hid (ownsRow_stays HO3.out hb4)
          have HB4 := Lib.hid (bthen HB3.out hb4 (Nat.le_refl _))
          clear hb4 x0 x1 x2
          go_upto_region 17 with fail
          rw [← hW4, ← hY]
          clear hW4 hY
          obtain ⟨y0, y1, _, _⟩ := HY4.out
          have HS4 := Lib.hid (SAt.own HO4.out (by decide))
          obtain ⟨br, obr, hA, _⟩ := HS4.out.at_ (k := 0) (by omega)
          subst hA
          obtain ⟨z0, z1⟩ := pair_cells HS4.out hbi
          rw [HYE.out] at z0 z1
          have hne := neq_pair y y
          rw [eqP_self] at hne
          go_quiet (fail)
          clear y0 y1 z0 z1 hne
          obtain ⟨W5, hW5⟩ : ∃ W5, W5 = W4.drewN nq := ⟨_, rfl⟩
          have HH5 : Hid (HeapAt W5 w.heap.size w.heap.size K v3 (popN (ltP m) nj) (pu : Nat)) := Lib.hid (by rw [hW5]; exact HH4.out.drewN _)
          have HB5 : Hid (Below w.heap.size w W5) := Lib.hid (by rw [hW5]; exact bdrewN HB4.out _)
          have HS5 : Hid (SAt pairC W5 (some ⟨br, obr, none⟩) (l2 + 1) rk) := Lib.hid (by rw [hW5]; exact HS4.out.drewN _)
          rw [← hW5]
          clear hW5
          go_wp2_with fail
          refine (without_any _ (l2 + 1) cr bi rk _ HS5.out (by omega)).mono ?_
          rintro e w6 ⟨v6, rfl, hr6, hb6⟩
          have hlen : (rk.eraseIdx bi).length = l2 := by rw [List.length_eraseIdx_of_lt (by rw [HRL.out]; exact hbi), HRL.out]; omega
          rw [hlen] at hr6
          obtain ⟨A6, c6, hv6, _⟩ := ownsRow_slice hr6
          subst hv6
          have HAP6 := Lib.hid (Apart.fresh hr6 (fun q hq => heap_row_lt HH5.out hq))
          have HO6 := Lib.hid (ownsRow_base hr6 (show w.heap.size + 1 ≤ W5.heap.size from HH5.out.lt))
          have HH6 := Lib.hid (HH5.out.stays hb6)
          have HB6 := Lib.hid (bthen HB5.out hb6 (Nat.le_refl _))
          have HLEN := Lib.hid hlen
          have HHO6 : Hid (Holds (ltP m) (popN (ltP m) nj) (rk.eraseIdx bi) pu) := Lib.hid (by rw [HBI.out]; exact HFST.out.2)
          have HNL6 := Lib.hid (popN_len (lt := ltP m) HNL.out)
          clear hr6 hb6 hlen
          go_wp2_with fail
          refine (len_any K _ _ _ _ _ _ HH6.out l2 HNL6.out).mono ?_
          rintro e w' ⟨rfl, rfl⟩
          go_wp2
          go_roundw
          case rel => exact ⟨k + 1, l2, pu, _, _, _, by omega, by omega, by omega, by go_num, HLEN, HH6, HHO6, HO6, HAP6, HB6⟩
          case measure => simp [intOf]; omega
        by_cases hq2 : (gop xs k).what = 2
        · have HQ := Lib.hid hq2
          rw [hq2] at x0
          obtain ⟨y, hy⟩ : ∃ y, y = (gn nj 0).p := ⟨_, rfl⟩
          have HY0 := Lib.hid hy
          have HYE : Hid (gp rk bi = y) := Lib.hid (by rw [hy, HBI.out]; exact HFST.out.1.symm)
          clear hy
          go_wp2_with fail
          refine (peek_any K _ _ vj nj _ _ HHW.out (l2 + 1) HNL.out (by omega)).mono ?_
          rintro e w3 ⟨rfl, hb3⟩
          rw [← HY0.out]
          have HO3 := Lib.hid (ownsRow_stays HOW.out hb3)
          have HB3 := Lib.hid (bthen HBW.out hb3 (Nat.le_refl _))
          have HH3 := Lib.hid (HHW.out.stays hb3)
          have HAP3 := HAP
          clear hb3
          obtain ⟨Y, hY⟩ : ∃ Y, Y = w3.heap.size := ⟨_, rfl⟩
          obtain ⟨W4, hW4⟩ : ∃ W4, W4 = w3.alloc (.cells #[.int .i64 y.key, .int .i64 y.mark] 28) := ⟨_, rfl⟩
          have hb4 : Below w3.heap.size w3 W4 := by rw [hW4]; exact al1 _ _
          have HY4 : Hid (Box2 W4 Y y) := Lib.hid (by rw [hW4]; exact Box2.new w3 y _ _ hY)
          have HH4 := Lib.hid (HH3.out.stays hb4)
          have HO4 := Lib.hid (ownsRow_stays HO3.out hb4)
          have HB4 := Lib.hid (bthen HB3.out hb4 (Nat.le_refl _))
          clear hb4 x0 x1 x2
          go_upto_region 22 with fail
          rw [← hW4, ← hY]
          clear hW4 hY
          obtain ⟨y0, y1, _, _⟩ := HY4.out
          have HS4 := Lib.hid (SAt.own HO4.out (by decide))
          obtain ⟨br, obr, hA, _⟩ := HS4.out.at_ (k := 0) (by omega)
          subst hA
          obtain ⟨z0, z1⟩ := pair_cells HS4.out hbi
          rw [HYE.out] at z0 z1
          have hne := neq_pair y y
          rw [eqP_self] at hne
          go_quiet (fail)
          clear y0 y1 z0 z1 hne
          obtain ⟨W5, hW5⟩ : ∃ W5, W5 = W4.drewN nq := ⟨_, rfl⟩
          have HH5 : Hid (HeapAt W5 w.heap.size w.heap.size K vj nj (pu : Nat)) := Lib.hid (by rw [hW5]; exact HH4.out.drewN _)
          have HB5 : Hid (Below w.heap.size w W5) := Lib.hid (by rw [hW5]; exact bdrewN HB4.out _)
          have HO5 : Hid (W5.ownsRow (w.heap.size + 1) 28 pairC.sz (.slice (some ⟨br, obr, none⟩) (l2 + 1) cr) (l2 + 1) (pairC.all rk)) := Lib.hid (by rw [hW5]; exact HO4.out)
          rw [← hW5]
          clear hW5
          go_wp2_with fail
          refine (len_any K _ _ _ _ _ _ HH5.out (l2 + 1) HNL.out).mono ?_
          rintro e w' ⟨rfl, rfl⟩
          go_wp2
          go_roundw
          case rel => exact ⟨k + 1, (l2 + 1), pu, _, _, _, by omega, by omega, by omega, by go_num, HRL, HH5, HHO, HO5, HAP, HB5⟩
          case measure => simp [intOf]; omega
        by_cases hq3 : (gop xs k).what = 3
        · have HQ := Lib.hid hq3
          rw [hq3] at x0
          have hdr := fun u (hu : HeapAt u w.heap.size w.heap.size K vj nj (pu : Nat)) => drain_any K (ltP m) HK.out _ _ vj nj _ u hu (l2 + 1) HNL.out (by omega)
          rw [HHO.out.drain HF.out HRL.out] at hdr
          have HDR := Lib.hid hdr
          clear hdr
          go_wp2_with fail
          refine (HDR.out _ HHW.out).mono ?_
          rintro e w3 ⟨vo, v3, rfl, hro, hh3, hv3, ha3⟩
          obtain ⟨Ao, co, hvo, _⟩ := ownsRow_slice hro
          subst hvo
          have HD3 := Lib.hid (SAt.own hro (by decide))
          have HO3 := Lib.hid (own_apart HOW.out ha3 (Nat.lt_succ_self _) HAP.out)
          have HB3 := Lib.hid (HBW.out.trans (HHW.out.below HBW.out.size ha3))
          have HH3 := Lib.hid hh3
          clear hro hh3 hv3 ha3 x0 x1 x2
          go_wp2_with fail
          refine (rsort_any m Ar (l2 + 1) cr rk _ (SAt.own HO3.out (by decide)) (by omega)).mono ?_
          rintro e w4 ⟨vs, rfl, hrs, hb4⟩
          obtain ⟨As, cs, hvs, _⟩ := ownsRow_slice hrs
          subst hvs
          have HS4 := Lib.hid (SAt.own hrs (by decide))
          have HD4 := Lib.hid (HD3.out.stays hb4)
          have HH4 := Lib.hid (HH3.out.stays hb4)
          have HB4 := Lib.hid (bthen HB3.out hb4 (Nat.le_refl _))
          clear hrs hb4
          go_wp2_with fail
          refine (same_yes Ao As (l2 + 1) (l2 + 1) co cs _ _ HD4.out HS4.out (by omega)).mono ?_
          rintro e w' ⟨rfl, q, rfl⟩
          obtain ⟨W5, hW5⟩ : ∃ W5, W5 = w4.drewN q := ⟨_, rfl⟩
          have HH5 : Hid (HeapAt W5 w.heap.size w.heap.size K v3 [] (pu : Nat)) := Lib.hid (by rw [hW5]; exact HH4.out.drewN _)
          have HB5 : Hid (Below w.heap.size w W5) := Lib.hid (by rw [hW5]; exact bdrewN HB4.out _)
          have HO5 : Hid (W5.ownsRow (w.heap.size + 1) 28 pairC.sz (.slice none 0 0) 0 (pairC.all [])) := Lib.hid (World.ownsRow_nil _ _ _ _)
          have HAP5 : Hid (Apart (.slice none 0 0) v3) := Lib.hid (by intro q h; simp [Value.ownBlock] at h)
          have HNL5 : Hid (([] : List Node).length = 0) := Lib.hid rfl
          rw [← hW5]
          clear hW5
          go_wp2_with fail
          refine (len_any K _ _ _ _ _ _ HH5.out 0 HNL5.out).mono ?_
          rintro e w' ⟨rfl, rfl⟩
          go_wp2
          go_roundw
          case rel => exact ⟨k + 1, 0, pu, _, _, _, by omega, by omega, by omega, by go_num, Lib.hid rfl, HH5, Lib.hid (Holds.nil _ pu), HO5, HAP5, HB5⟩
          case measure => simp [intOf]; omega
        · have HQ := True.intro
          go_wp2_with fail
          refine (len_any K _ _ _ _ _ _ HHW.out (l2 + 1) HNL.out).mono ?_
          rintro e w' ⟨rfl, rfl⟩
          go_wp2
          go_roundw
          case rel => exact ⟨k + 1, (l2 + 1), pu, _, _, _, by omega, by omega, by omega, by go_num, HRL, HHW, HHO, HOW, HAP, HBW⟩
          case measure => simp [intOf]; omega
      | zero =>
        obtain ⟨x0, x1, x2⟩ := HXO.out
        by_cases hq0 : (gop xs k).what = 0
        · have HQ := Lib.hid hq0
          rw [hq0] at x0
          go_wp2_with fail
          refine (push_any K (ltP m) HK.out _ _ vj nj pu (gop xs k).x _ HHW.out 0 HNL.out (by omega) (by omega)).mono ?_
          rintro e w3 ⟨rfl, v3, hh3, hr3, ha3⟩
          have HX3 := Lib.hid (HXO.out.asd ha3 HXH.out HXR.out)
          have HO3 := Lib.hid (own_apart HOW.out ha3 (Nat.lt_succ_self _) HAP.out)
          have HAP3 := Lib.hid (HAP.out.row hr3 HOW.out)
          have HB3 := Lib.hid (HBW.out.trans (HHW.out.below HBW.out.size ha3))
          have HUP3 := Lib.hid (Nat.le_trans HUP.out ha3.size)
          have HH3 := Lib.hid hh3
          have HHO3 := Lib.hid (HHO.out.push HF.out (gop xs k).x)
          have HNL3 : Hid ((pushN (ltP m) nj (gop xs k).x pu).length = 0 + 1) := Lib.hid (by rw [pushN_len, HNL.out])
          clear hh3 hr3 ha3 x0 x1 x2
          obtain ⟨x0, x1, x2⟩ := HX3.out
          rw [HQ.out] at x0
          go_wp2_with (at_builtin; refine wpList_append_own_at rfl (.tmp 52) (.tmp 55) 26 rfl (w.heap.size + 1) 28 i0 (.agg #[.int .i64 0, .int .i64 0]) pairC.sz 16 Try.underlying26 hi hz0 hz1 hz2 rfl (by decide) _ _ _ rfl (HO3.out.alloc _) ⟨_, 0, none⟩ 1 1 (pairC.cs (gop xs k).x) rfl rfl (cs_new pairC _ _ _ _ rfl) (pairC.one _) (by unfold maxLen; omega) (by omega) (by have := HUP3.out; simp; omega) ?_; intro v8 w8 hown8 hg8 hr8; obtain ⟨A8, c8, rfl, _⟩ := ownsRow_slice hown8; have HH8 := Lib.hid (HH3.out.app hg8 (own_ne HO3.out (Nat.lt_succ_self _)) HAP3.out); have HAP8 := Lib.hid (HAP3.out.app hr8 (fun q hq => by have := heap_row_lt HH3.out hq; simp; omega)); have HB8 := Lib.hid (below_app HB3.out HB3.out.size (Nat.le_succ _) HO3.out hg8); have HO8 := Lib.hid hown8; clear hown8 hg8 hr8)
          have HO9 : Hid (w8.ownsRow (w.heap.size + 1) 28 pairC.sz (.slice A8 (0 + 1) c8) (0 + 1) (pairC.all (rk ++ [(gop xs k).x]))) := Lib.hid (by rw [pairC.all_app, pairC.all_one]; exact HO8.out)
          have hcc : (((0 + 1 : Nat) : Int) != ((0 + 1 : Nat) : Int)) = false := by simp
          go_wp2_with fail
          refine (len_any K _ _ _ _ _ _ HH8.out (0 + 1) HNL3.out).mono ?_
          rintro e w' ⟨rfl, rfl⟩
          go_wp2
          go_roundw
          case rel => exact ⟨k + 1, (0 + 1), (pu + 1), _, _, _, by omega, by omega, by omega, by go_num, Lib.hid (by rw [List.length_append, HRL.out]; rfl), HH8, HHO3, HO9, HAP8, HB8⟩
          case measure => simp [intOf]; omega
        by_cases hq1 : (gop xs k).what = 1
        · have HQ := Lib.hid hq1
          rw [hq1] at x0
          go_wp2_with fail
          refine (pop_zero K _ _ vj nj _ _ HHW.out HNL.out).mono ?_
          rintro e w3 ⟨rfl, hb3⟩
          obtain ⟨Y, hY⟩ : ∃ Y, Y = w3.heap.size := ⟨_, rfl⟩
          obtain ⟨W4, hW4⟩ : ∃ W4, W4 = w3.alloc (.cells #[.int .i64 0, .int .i64 0] 28) := ⟨_, rfl⟩
          have hb4 : Below W.heap.size W W4 := by rw [hW4]; exact balloc hb3 _ (Nat.le_refl _)
          have HY4 : Hid (Box2 W4 Y ⟨0, 0⟩) := Lib.hid (by rw [hW4]; exact Box2.new w3 ⟨0, 0⟩ _ _ hY)
          have HH4 := Lib.hid (HHW.out.stays hb4)
          have HO4 := Lib.hid (ownsRow_stays HOW.out hb4)
          have HB4 := Lib.hid (bthen HBW.out hb4 (Nat.le_refl _))
          clear hb3 hb4 x0 x1 x2
          go_upto_region 17 with fail
          rw [← hW4, ← hY]
          clear hW4 hY
          obtain ⟨y0, y1, _, _⟩ := HY4.out
          have hne : ∀ w, (binOp .neq 28 (.agg #[.int .i64 0, .int .i64 0]) (.agg #[.int .i64 0, .int .i64 0])).run Try.prog w = .ok (.bool false) w := fun w => by
            have := neq_pair ⟨0, 0⟩ ⟨0, 0⟩ w
            rwa [eqP_self] at this
          go_quiet (fail)
          clear y0 y1 hne
          obtain ⟨W5, hW5⟩ : ∃ W5, W5 = W4.drewN nq := ⟨_, rfl⟩
          have HH5 : Hid (HeapAt W5 w.heap.size w.heap.size K vj nj (pu : Nat)) := Lib.hid (by rw [hW5]; exact HH4.out.drewN _)
          have HB5 : Hid (Below w.heap.size w W5) := Lib.hid (by rw [hW5]; exact bdrewN HB4.out _)
          have HS5 : Hid (SAt pairC W5 Ar 0 rk) := Lib.hid (by rw [hW5]; exact (SAt.own HO4.out (by decide)).drewN _)
          rw [← hW5]
          clear hW5
          go_wp2_with fail
          refine (without_any Ar 0 cr 0 rk _ HS5.out (by omega)).mono ?_
          rintro e w6 ⟨v6, rfl, hr6, hb6⟩
          have hrk : rk.eraseIdx 0 = rk := by rw [List.eq_nil_of_length_eq_zero HRL.out]; rfl
          rw [hrk, HRL.out] at hr6
          obtain ⟨A6, c6, hv6, _⟩ := ownsRow_slice hr6
          subst hv6
          have HAP6 := Lib.hid (Apart.fresh hr6 (fun q hq => heap_row_lt HH5.out hq))
          have HO6 := Lib.hid (ownsRow_base hr6 (show w.heap.size + 1 ≤ W5.heap.size from HH5.out.lt))
          have HH6 := Lib.hid (HH5.out.stays hb6)
          have HB6 := Lib.hid (bthen HB5.out hb6 (Nat.le_refl _))
          clear hr6 hb6 hrk
          go_wp2_with fail
          refine (len_any K _ _ _ _ _ _ HH6.out 0 HNL.out).mono ?_
          rintro e w' ⟨rfl, rfl⟩
          go_wp2
          go_roundw
          case rel => exact ⟨k + 1, 0, pu, _, _, _, by omega, by omega, by omega, by go_num, HRL, HH6, HHO, HO6, HAP6, HB6⟩
          case measure => simp [intOf]; omega
        by_cases hq2 : (gop xs k).what = 2
        · have HQ := Lib.hid hq2
          rw [hq2] at x0
          go_wp2_with fail
          refine (peek_zero K _ _ vj nj _ _ HHW.out HNL.out).mono ?_
          rintro e w3 ⟨rfl, hb3⟩
          obtain ⟨Y, hY⟩ : ∃ Y, Y = w3.heap.size := ⟨_, rfl⟩
          obtain ⟨W4, hW4⟩ : ∃ W4, W4 = w3.alloc (.cells #[.int .i64 0, .int .i64 0] 28) := ⟨_, rfl⟩
          have hb4 : Below W.heap.size W W4 := by rw [hW4]; exact balloc hb3 _ (Nat.le_refl _)
          have HY4 : Hid (Box2 W4 Y ⟨0, 0⟩) := Lib.hid (by rw [hW4]; exact Box2.new w3 ⟨0, 0⟩ _ _ hY)
          have HH4 := Lib.hid (HHW.out.stays hb4)
          have HO4 := Lib.hid (ownsRow_stays HOW.out hb4)
          have HB4 := Lib.hid (bthen HBW.out hb4 (Nat.le_refl _))
          clear hb3 hb4 x0 x1 x2
          go_upto_region 22 with fail
          rw [← hW4, ← hY]
          clear hW4 hY
          obtain ⟨y0, y1, _, _⟩ := HY4.out
          have hne : ∀ w, (binOp .neq 28 (.agg #[.int .i64 0, .int .i64 0]) (.agg #[.int .i64 0, .int .i64 0])).run Try.prog w = .ok (.bool false) w := fun w => by
            have := neq_pair ⟨0, 0⟩ ⟨0, 0⟩ w
            rwa [eqP_self] at this
          go_quiet (fail)
          clear y0 y1 hne
          obtain ⟨W5, hW5⟩ : ∃ W5, W5 = W4.drewN nq := ⟨_, rfl⟩
          have HH5 : Hid (HeapAt W5 w.heap.size w.heap.size K vj nj (pu : Nat)) := Lib.hid (by rw [hW5]; exact HH4.out.drewN _)
          have HB5 : Hid (Below w.heap.size w W5) := Lib.hid (by rw [hW5]; exact bdrewN HB4.out _)
          have HO5 : Hid (W5.ownsRow (w.heap.size + 1) 28 pairC.sz (.slice Ar 0 cr) 0 (pairC.all rk)) := Lib.hid (by rw [hW5]; exact HO4.out)
          rw [← hW5]
          clear hW5
          go_wp2_with fail
          refine (len_any K _ _ _ _ _ _ HH5.out 0 HNL.out).mono ?_
          rintro e w' ⟨rfl, rfl⟩
          go_wp2
          go_roundw
          case rel => exact ⟨k + 1, 0, pu, _, _, _, by omega, by omega, by omega, by go_num, HRL, HH5, HHO, HO5, HAP, HB5⟩
          case measure => simp [intOf]; omega
        by_cases hq3 : (gop xs k).what = 3
        · have HQ := Lib.hid hq3
          rw [hq3] at x0
          have hdr := fun u (hu : HeapAt u w.heap.size w.heap.size K vj nj (pu : Nat)) => drain_any K (ltP m) HK.out _ _ vj nj _ u hu 0 HNL.out (by omega)
          rw [HHO.out.drain HF.out HRL.out] at hdr
          have HDR := Lib.hid hdr
          clear hdr
          go_wp2_with fail
          refine (HDR.out _ HHW.out).mono ?_
          rintro e w3 ⟨vo, v3, rfl, hro, hh3, hv3, ha3⟩
          obtain ⟨Ao, co, hvo, _⟩ := ownsRow_slice hro
          subst hvo
          have HD3 := Lib.hid (SAt.own hro (by decide))
          have HO3 := Lib.hid (own_apart HOW.out ha3 (Nat.lt_succ_self _) HAP.out)
          have HB3 := Lib.hid (HBW.out.trans (HHW.out.below HBW.out.size ha3))
          have HH3 := Lib.hid hh3
          clear hro hh3 hv3 ha3 x0 x1 x2
          go_wp2_with fail
          refine (rsort_any m Ar 0 cr rk _ (SAt.own HO3.out (by decide)) (by omega)).mono ?_
          rintro e w4 ⟨vs, rfl, hrs, hb4⟩
          obtain ⟨As, cs, hvs, _⟩ := ownsRow_slice hrs
          subst hvs
          have HS4 := Lib.hid (SAt.own hrs (by decide))
          have HD4 := Lib.hid (HD3.out.stays hb4)
          have HH4 := Lib.hid (HH3.out.stays hb4)
          have HB4 := Lib.hid (bthen HB3.out hb4 (Nat.le_refl _))
          clear hrs hb4
          go_wp2_with fail
          refine (same_yes Ao As 0 0 co cs _ _ HD4.out HS4.out (by omega)).mono ?_
          rintro e w' ⟨rfl, q, rfl⟩
          obtain ⟨W5, hW5⟩ : ∃ W5, W5 = w4.drewN q := ⟨_, rfl⟩
          have HH5 : Hid (HeapAt W5 w.heap.size w.heap.size K v3 [] (pu : Nat)) := Lib.hid (by rw [hW5]; exact HH4.out.drewN _)
          have HB5 : Hid (Below w.heap.size w W5) := Lib.hid (by rw [hW5]; exact bdrewN HB4.out _)
          have HO5 : Hid (W5.ownsRow (w.heap.size + 1) 28 pairC.sz (.slice none 0 0) 0 (pairC.all [])) := Lib.hid (World.ownsRow_nil _ _ _ _)
          have HAP5 : Hid (Apart (.slice none 0 0) v3) := Lib.hid (by intro q h; simp [Value.ownBlock] at h)
          have HNL5 : Hid (([] : List Node).length = 0) := Lib.hid rfl
          rw [← hW5]
          clear hW5
          go_wp2_with fail
          refine (len_any K _ _ _ _ _ _ HH5.out 0 HNL5.out).mono ?_
          rintro e w' ⟨rfl, rfl⟩
          go_wp2
          go_roundw
          case rel => exact ⟨k + 1, 0, pu, _, _, _, by omega, by omega, by omega, by go_num, Lib.hid rfl, HH5, Lib.hid (Holds.nil _ pu), HO5, HAP5, HB5⟩
          case measure => simp [intOf]; omega
        · have HQ := True.intro
          go_wp2_with fail
          refine (len_any K _ _ _ _ _ _ HHW.out 0 HNL.out).mono ?_
          rintro e w' ⟨rfl, rfl⟩
          go_wp2
          go_roundw
          case rel => exact ⟨k + 1, 0, pu, _, _, _, by omega, by omega, by omega, by go_num, HRL, HHW, HHO, HOW, HAP, HBW⟩
          case measure => simp [intOf]; omega
    · obtain rfl : k = n := by omega
      have hd : ¬ ((k : Int) < (k : Int)) := by omega
      go_wp2_with fail
      refine (example_any _).mono ?_
      rintro e w2 ⟨rfl, hb2⟩
      have HB2 := Lib.hid (bthen HB.out hb2 (Nat.le_refl _))
      clear hb2
      go_wp2
      go_ret
      exact ⟨rfl, HB2.out⟩
end Go.Proofs.Ytndbdgadijbhnaa
