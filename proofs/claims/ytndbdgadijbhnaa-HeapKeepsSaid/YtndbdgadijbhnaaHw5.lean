/-
  The walk of HeapKeeps. Printed by gen/hpw5.py.
-/
import Derived.Test.YtndbdgadijbhnaaHw3
namespace Go.Proofs.Ytndbdgadijbhnaa
open Go.RowKit

theorem pushTo_perm (lt : Pair → Pair → Bool) {xs : List Pair} {n : Nat} (hn : xs.length = n) : ∀ k, k ≤ n → ((pushTo lt xs k).map Node.p).Perm (xs.take k) := by
  intro k
  induction k with
  | zero => intro _; exact List.Perm.refl _
  | succ k ih =>
    intro h
    rw [pushTo, pairC.g_take (by omega)]
    have h1 := (push_perm lt (pushTo lt xs k) (gp xs k) (k : Nat)).map Node.p
    rw [List.map_append] at h1
    exact h1.trans ((ih (by omega)).append_right _)
theorem pop_keeps {lt : Pair → Pair → Bool} {xs done : List Pair} {nj : List Node} {g : Nat} (hn : nj.length = g + 1) (h : (done ++ nj.map Node.p).Perm xs) : ((done ++ [(gn nj 0).p]) ++ (popN lt nj).map Node.p).Perm xs := by
  have h1 := (pop_perm lt hn).map Node.p
  rw [List.map_cons] at h1
  rw [List.append_assoc]
  exact (h1.append_left done).trans h
theorem drain_keeps {lt : Pair → Pair → Bool} {xs done : List Pair} {nj : List Node} {g : Nat} (hn : nj.length = g) (h : (done ++ nj.map Node.p).Perm xs) : (done ++ drainL lt g nj).Perm xs := by
  rw [drain_map]
  exact (((drain_perm lt g nj hn).map Node.p).append_left done).trans h

set_option maxRecDepth 100000 in
set_option maxHeartbeats 2000000 in
theorem keeps_walk (m : Int) (A : Option Addr) (n c : Nat) (xs : List Pair) (pops : Int) (w : World) (_h : I64 m) (hx : SAt pairC w A n xs) (_g : True) (hc : n ≤ c) (_hp : I64 pops) :
    Calls Try.prog 7 #[.int .i64 m, .slice A n c, .int .i64 pops] w fun e w' => e = .returned (.bool true) ∧ Below w.heap.size w w' := by
  have HX := Lib.hid hx
  clear hx
  obtain ⟨i0, hi, hz0, hz1, hz2⟩ := info_parts pair_info
  by_cases hm0 : m < 0
  · go_enter Try.func7, Try.ntmps7
    go_wp2_with fail
    refine (made_any m _).mono ?_
    rintro e w1 ⟨K, hK, rfl, hh1, hb1⟩
    have HB1 := Lib.hid hb1
    clear hK hh1 hb1
    go_wp2_with fail
    refine (example_any _).mono ?_
    rintro e w2 ⟨rfl, hb2⟩
    have HB2 := Lib.hid (bthen HB1.out hb2 (Nat.le_refl _))
    clear hb2
    go_wp2
    go_ret
    exact ⟨rfl, HB2.out⟩
  by_cases hm4 : 4 < m
  · go_enter Try.func7, Try.ntmps7
    go_wp2_with fail
    refine (made_any m _).mono ?_
    rintro e w1 ⟨K, hK, rfl, hh1, hb1⟩
    have HB1 := Lib.hid hb1
    clear hK hh1 hb1
    go_wp2_with fail
    refine (example_any _).mono ?_
    rintro e w2 ⟨rfl, hb2⟩
    have HB2 := Lib.hid (bthen HB1.out hb2 (Nat.le_refl _))
    clear hb2
    go_wp2
    go_ret
    exact ⟨rfl, HB2.out⟩
  by_cases h200 : (200 : Int) < (n : Int)
  · go_enter Try.func7, Try.ntmps7
    go_wp2_with fail
    refine (made_any m _).mono ?_
    rintro e w1 ⟨K, hK, rfl, hh1, hb1⟩
    have HB1 := Lib.hid hb1
    clear hK hh1 hb1
    go_wp2_with fail
    refine (example_any _).mono ?_
    rintro e w2 ⟨rfl, hb2⟩
    have HB2 := Lib.hid (bthen HB1.out hb2 (Nat.le_refl _))
    clear hb2
    go_wp2
    go_ret
    exact ⟨rfl, HB2.out⟩
  have hn200 : n ≤ 200 := by omega
  go_enter Try.func7, Try.ntmps7
  go_wp2_with fail
  refine (made_any m _).mono ?_
  rintro e w1 ⟨K, hK, rfl, hh1, hb1⟩
  have HK := Lib.hid hK
  have HH1 := Lib.hid hh1
  have HB1 := Lib.hid hb1
  clear hK hh1 hb1
  go_wp2
  go_loopw [36] (fun i wr => ∃ (k : Nat) (v : Value), k ≤ n ∧ i = .int .i64 k ∧ Hid (HeapAt wr w.heap.size w.heap.size K v (pushTo (ltP m) xs k) (k : Nat)) ∧ Hid (Below w.heap.size w wr)) (fun i _ => n - (intOf i).toNat)
  case atStart => exact ⟨0, _, by omega, rfl, HH1, HB1⟩
  case round =>
    obtain ⟨k, v, hkn, rfl, HH, HB⟩ := hrel
    have k0 : (0 : Int) ≤ (k : Int) := by omega
    by_cases hlt : k < n
    · have hlt' : (k : Int) < (n : Int) := by omega
      obtain ⟨b, o, hA, _⟩ := HX.out.at_ hlt
      subst hA
      obtain ⟨c0, c1⟩ := pair_cells (HX.out.stays HB.out) hlt
      have HPL := Lib.hid (pushTo_len (ltP m) xs k)
      obtain ⟨W, hW⟩ : ∃ W, W = wr.alloc (.cells #[.int .i64 (gp xs k).key, .int .i64 (gp xs k).mark] 28) := ⟨_, rfl⟩
      have hbW : Below wr.heap.size wr W := by rw [hW]; exact al1 _ _
      have HHW := Lib.hid (HH.out.stays hbW)
      have HBW := Lib.hid (bthen HB.out hbW (Nat.le_refl _))
      have HXW : Hid (Box2 W wr.heap.size (gp xs k)) := Lib.hid (by rw [hW]; exact Box2.new wr _ _ _ rfl)
      clear c0 c1 hbW
      obtain ⟨c0, c1⟩ := pair_cells (HX.out.stays HB.out) hlt
      go_upto_region 7 with fail
      rw [← hW]
      clear hW c0 c1
      obtain ⟨x0, x1, _, _⟩ := HXW.out
      go_wp2_with fail
      refine (push_any K (ltP m) HK.out _ _ v _ k (gp xs k) _ HHW.out k HPL.out (by omega) (by omega)).mono ?_
      rintro e w3 ⟨rfl, v3, hh3, _, ha3⟩
      have HB3 := Lib.hid (HBW.out.trans (HHW.out.below HBW.out.size ha3))
      have HH3 := Lib.hid hh3
      clear hh3 ha3 x0 x1
      go_wp2
      go_roundw
      case rel => exact ⟨k + 1, v3, by omega, by go_num, HH3, HB3⟩
      case measure => simp [intOf]; omega
    · obtain rfl : k = n := by omega
      have hd : ¬ ((k : Int) < (k : Int)) := by omega
      have HPL := Lib.hid (pushTo_len (ltP m) xs k)
      have HPM0 : Hid (([] ++ (pushTo (ltP m) xs k).map Node.p).Perm xs) := Lib.hid (by
        have := pushTo_perm (ltP m) HX.out.1 k (Nat.le_refl _)
        rwa [List.take_of_length_le (by rw [HX.out.1]; omega)] at this)
      obtain ⟨ow, how⟩ : ∃ ow, v.ownBlock = ow := ⟨_, rfl⟩
      obtain ⟨N0, hN0⟩ : ∃ N0, N0 = pushTo (ltP m) xs k := ⟨_, rfl⟩
      rw [← hN0] at HH HPL HPM0
      clear hN0
      obtain ⟨L, hL⟩ : ∃ L, L = wr.heap.size := ⟨_, rfl⟩
      have HLH : Hid (w.heap.size < L) := Lib.hid (by rw [hL]; exact HH.out.lt)
      have HLR : Hid (∀ q, ow = some q → q < L) := Lib.hid (fun q hq => by rw [hL]; exact heap_row_lt HH.out (how.trans hq))
      have HOW := Lib.hid how
      have HLW0 : Hid (L ≤ wr.heap.size) := Lib.hid (Nat.le_of_eq hL)
      clear how hd hL
      go_wp2
      go_loopg [10, 11] (k + 1) (fun gg so si wr => ∃ (j g : Nat) (vj : Value) (nj : List Node) (done : List Pair), j + g = k ∧ g + 1 ≤ gg ∧ si = .int .i64 j ∧ Hid (nj.length = g) ∧ Hid ((done ++ nj.map Node.p).Perm xs) ∧ Hid (wr.ownsRow L 28 pairC.sz so j (pairC.all done)) ∧ Hid (HeapAt wr w.heap.size w.heap.size K vj nj (k : Nat)) ∧ Hid (vj.ownBlock = ow) ∧ Hid (L ≤ wr.heap.size) ∧ Hid (Below w.heap.size w wr))
      case atStart => exact ⟨0, k, v, N0, [], by omega, by omega, rfl, HPL, HPM0, Lib.hid (World.ownsRow_nil _ _ _ _), HH, HOW, HLW0, HB⟩
      case round =>
        obtain ⟨j, g, vj, nj, done, hjg, hgg, rfl, HL, HPj, HOj, HHj, HVj, HLW, HBj⟩ := hrel
        have j0 : (0 : Int) ≤ (j : Int) := by omega
        by_cases hjp : (j : Int) < pops
        · cases g with
          | succ g2 =>
            obtain ⟨gg2, rfl⟩ : ∃ gg2, gk = gg2 + 1 := ⟨gk - 1, by omega⟩
            have hlt' : (j : Int) < (k : Int) := by omega
            go_wp2_with fail
            refine (peek_any K _ _ vj nj _ _ HHj.out (g2 + 1) HL.out (by omega)).mono ?_
            rintro e w4 ⟨rfl, hb4⟩
            obtain ⟨X, hX⟩ : ∃ X, X = w4.heap.size := ⟨_, rfl⟩
            obtain ⟨W5, hW5⟩ : ∃ W5, W5 = w4.alloc (.cells #[.int .i64 (gn nj 0).p.key, .int .i64 (gn nj 0).p.mark] 28) := ⟨_, rfl⟩
            have hb5 : Below wr.heap.size wr W5 := by rw [hW5]; exact balloc hb4 _ (Nat.le_refl _)
            have HX5 : Hid (Box2 W5 X (gn nj 0).p) := Lib.hid (by rw [hW5]; exact Box2.new w4 _ _ _ hX)
            have HXL : Hid (L ≤ X) := Lib.hid (by have h1 := HLW.out; have h2 := hb4.size; omega)
            have HH5 := Lib.hid (HHj.out.stays hb5)
            have HB5 := Lib.hid (bthen HBj.out hb5 (Nat.le_refl _))
            have HO5 := Lib.hid (ownsRow_stays HOj.out hb5)
            have HLW5 := Lib.hid (Nat.le_trans HLW.out hb5.size)
            clear hb4 hb5
            go_upto_region 14 with fail
            rw [← hW5, ← hX]
            clear hW5 hX
            go_wp2_with fail
            refine (pop_any K (ltP m) HK.out _ _ vj nj _ _ HH5.out g2 HL.out (by omega)).mono ?_
            rintro e w6 ⟨rfl, v6, hh6, hv6, ha6⟩
            rw [HVj.out] at hv6 ha6
            have hXo : some X ≠ ow := fun e => by have := HLR.out X e.symm; have := HXL.out; omega
            have HX6 := Lib.hid (HX5.out.asd ha6 (by have := HXL.out; have := HLH.out; omega) hXo)
            have HO6 := Lib.hid (own_asd HO5.out ha6 HLH.out HLR.out)
            have HB6 := Lib.hid (HB5.out.trans (HH5.out.below HB5.out.size (by rw [HVj.out]; exact ha6)))
            have HLW6 := Lib.hid (Nat.le_trans HLW5.out ha6.size)
            have HH6 := Lib.hid hh6
            have HV6 := Lib.hid hv6
            clear hh6 hv6 ha6 hXo
            obtain ⟨Y, hY⟩ : ∃ Y, Y = w6.heap.size := ⟨_, rfl⟩
            obtain ⟨W7, hW7⟩ : ∃ W7, W7 = w6.alloc (.cells #[.int .i64 (gn nj 0).p.key, .int .i64 (gn nj 0).p.mark] 28) := ⟨_, rfl⟩
            have hb7 : Below w6.heap.size w6 W7 := by rw [hW7]; exact al1 _ _
            have HY7 : Hid (Box2 W7 Y (gn nj 0).p) := Lib.hid (by rw [hW7]; exact Box2.new w6 _ _ _ hY)
            have HX7 := Lib.hid (HX6.out.stays hb7)
            have HO7 := Lib.hid (ownsRow_stays HO6.out hb7)
            have HH7 := Lib.hid (HH6.out.stays hb7)
            have HB7 := Lib.hid (bthen HB6.out hb7 (Nat.le_refl _))
            have HLW7 := Lib.hid (Nat.le_trans HLW6.out hb7.size)
            clear hb7
            go_upto_region 15 with fail
            rw [← hW7, ← hY]
            clear hW7 hY
            have HPN := Lib.hid (popN_len (lt := ltP m) HL.out)
            have HPK := Lib.hid (pop_keeps (lt := ltP m) HL.out HPj.out)
            obtain ⟨x0, x1, _, _⟩ := HX7.out
            obtain ⟨y0, y1, _, _⟩ := HY7.out
            have hne := neq_pair (gn nj 0).p (gn nj 0).p
            rw [eqP_self] at hne
            go_wp2_with (at_builtin; refine wpList_append_own _ rfl _ _ 26 rfl L 28 i0 (.agg #[.int .i64 0, .int .i64 0]) pairC.sz 16 Try.underlying26 hi hz0 hz1 hz2 rfl (by decide) _ _ _ rfl (HO7.out.alloc _) ⟨_, 0, none⟩ 1 1 (pairC.cs (gn nj 0).p) rfl rfl (cs_new pairC _ _ _ _ rfl) (pairC.one _) (by unfold maxLen; omega) (by omega) (by have := HLW7.out; simp; omega) ?_; intro v8 w8 hown8 hg8 _)
            have HO8 : Hid (w8.ownsRow L 28 pairC.sz v8 (j + 1) (pairC.all (done ++ [(gn nj 0).p]))) := Lib.hid (by rw [pairC.all_app, pairC.all_one]; exact hown8)
            have HH8 := Lib.hid (HH7.out.grown hg8 HLH.out (by rw [HV6.out]; exact HLR.out) (fun q hq => (HO7.out.lt q hq).1))
            have HB8 := Lib.hid (below_app HB7.out HB7.out.size (Nat.le_of_lt HLH.out) HO7.out hg8)
            have HLW8 : Hid (L ≤ w8.heap.size) := Lib.hid (by have h1 := hg8.size; have h2 := HLW7.out; simp at h1; omega)
            clear hown8 hg8 x0 x1 y0 y1
            go_wp2
            go_roundg gg2
            case rel => exact ⟨j + 1, g2, v6, popN (ltP m) nj, done ++ [(gn nj 0).p], by omega, by omega, by go_num, HPN, HPK, HO8, HH8, HV6, HLW8, HB8⟩
            case measure => omega
          | zero =>
            obtain rfl : j = k := by omega
            have hd : ¬ ((j : Int) < (j : Int)) := by omega
            obtain ⟨Aj, cj, hso, _⟩ := ownsRow_slice HOj.out
            subst hso
            go_wp2_with fail
            refine (len_any K _ _ vj nj _ _ HHj.out 0 HL.out).mono ?_
            rintro e w' ⟨rfl, rfl⟩
            have hcnt := True.intro
            go_wp2_with fail
            refine (drain_any K (ltP m) HK.out _ _ vj nj _ _ HHj.out 0 HL.out (by omega)).mono ?_
            rintro e w4 ⟨vo, v4, rfl, hro, hh4, hv4, ha4⟩
            obtain ⟨Ao, co, hvo, _⟩ := ownsRow_slice hro
            subst hvo
            rw [HVj.out] at ha4
            have HO4 := Lib.hid (own_asd HOj.out ha4 HLH.out HLR.out)
            have HDR := Lib.hid (SAt.own hro (by decide))
            have HB4 := Lib.hid (HBj.out.trans (HHj.out.below HBj.out.size (by rw [HVj.out]; exact ha4)))
            have HH4 := Lib.hid hh4
            have HL4 := Lib.hid (Nat.le_trans HLW.out ha4.size)
            have HROW4 := Lib.hid (show ∀ q, v4.ownBlock = some q → q < L from fun q hq => HLR.out q (by rw [← HVj.out, ← hv4]; exact hq))
            have HPM := Lib.hid (drain_keeps (lt := ltP m) HL.out HPj.out)
            clear hro hh4 hv4 ha4 hcnt
            go_wp2_with (at_builtin; refine wpList_append_sat (C := pairC) rfl (.tmp 88) (.tmp 90) 26 rfl L 28 i0 (.agg #[.int .i64 0, .int .i64 0]) 16 Try.underlying26 hi hz0 hz1 hz2 rfl (by decide) _ j done rfl HO4.out _ _ _ (drainL (ltP m) 0 nj) rfl HDR.out (by unfold maxLen; omega) (by omega) HL4.out ?_; intro v8 w8 hr8 hb8)
            have hjg' : j + 0 = j := hjg
            rw [hjg'] at hr8
            obtain ⟨A8, c8, hv8, _⟩ := ownsRow_slice hr8
            subst hv8
            have HS8 := Lib.hid (SAt.own hr8 (by decide))
            have HH8 := Lib.hid (HH4.out.keep (hb8.block _ HLH.out) (fun q hq => hb8.block q (HROW4.out q hq)))
            have HB8 := Lib.hid (HB4.out.trans (hb8.mono (Nat.le_of_lt HLH.out)))
            clear hr8 hb8
            go_wp2_with fail
            refine (len_any K _ _ v4 _ _ _ HH8.out 0 rfl).mono ?_
            rintro e w' ⟨rfl, rfl⟩
            go_wp2_with fail
            refine (permuted_yes _ _ _ _ _ _ _ xs _ HS8.out (HX.out.stays HB8.out) (by omega) HPM.out).mono ?_
            rintro e w9 ⟨rfl, hb9⟩
            have HB9 := Lib.hid (bthen HB8.out hb9 (Nat.le_refl _))
            clear hb9
            go_wp2_with fail
            refine (sorted_any m A c j xs _ (HX.out.stays HB9.out) hc (by omega)).mono ?_
            rintro e w10 ⟨v10, rfl, hr10, hb10⟩
            rw [msortL_len, HX.out.1] at hr10
            obtain ⟨A10, c10, hv10, _⟩ := ownsRow_slice hr10
            subst hv10
            have HS10 := Lib.hid (SAt.own hr10 (by decide))
            have HB10 := Lib.hid (bthen HB9.out hb10 (Nat.le_refl _))
            clear hr10 hb10
            go_wp2_with fail
            refine (permuted_yes _ _ _ _ _ _ _ xs _ HS10.out (HX.out.stays HB10.out) (by omega) (msortL_perm _ _ _)).mono ?_
            rintro e w11 ⟨rfl, hb11⟩
            have HB11 := Lib.hid (bthen HB10.out hb11 (Nat.le_refl _))
            clear hb11
            go_wp2_with fail
            refine (example_any _).mono ?_
            rintro e w12 ⟨rfl, hb12⟩
            have HB12 := Lib.hid (bthen HB11.out hb12 (Nat.le_refl _))
            clear hb12
            go_wp2
            go_ret
            exact ⟨rfl, HB12.out⟩
        · have hjp' : pops ≤ (j : Int) := by omega
          obtain ⟨Aj, cj, hso, _⟩ := ownsRow_slice HOj.out
          subst hso
          go_wp2_with fail
          refine (len_any K _ _ vj nj _ _ HHj.out g HL.out).mono ?_
          rintro e w' ⟨rfl, rfl⟩
          have hcnt : ((g : Int) != (k : Int) - (j : Int)) = false := by rw [bne_eq_false_iff_eq]; omega
          go_wp2_with fail
          refine (drain_any K (ltP m) HK.out _ _ vj nj _ _ HHj.out g HL.out (by omega)).mono ?_
          rintro e w4 ⟨vo, v4, rfl, hro, hh4, hv4, ha4⟩
          obtain ⟨Ao, co, hvo, _⟩ := ownsRow_slice hro
          subst hvo
          rw [HVj.out] at ha4
          have HO4 := Lib.hid (own_asd HOj.out ha4 HLH.out HLR.out)
          have HDR := Lib.hid (SAt.own hro (by decide))
          have HB4 := Lib.hid (HBj.out.trans (HHj.out.below HBj.out.size (by rw [HVj.out]; exact ha4)))
          have HH4 := Lib.hid hh4
          have HL4 := Lib.hid (Nat.le_trans HLW.out ha4.size)
          have HROW4 := Lib.hid (show ∀ q, v4.ownBlock = some q → q < L from fun q hq => HLR.out q (by rw [← HVj.out, ← hv4]; exact hq))
          have HPM := Lib.hid (drain_keeps (lt := ltP m) HL.out HPj.out)
          clear hro hh4 hv4 ha4 hcnt
          go_wp2_with (at_builtin; refine wpList_append_sat (C := pairC) rfl (.tmp 88) (.tmp 90) 26 rfl L 28 i0 (.agg #[.int .i64 0, .int .i64 0]) 16 Try.underlying26 hi hz0 hz1 hz2 rfl (by decide) _ j done rfl HO4.out _ _ _ (drainL (ltP m) g nj) rfl HDR.out (by unfold maxLen; omega) (by omega) HL4.out ?_; intro v8 w8 hr8 hb8)
          have hjg' : j + g = k := hjg
          rw [hjg'] at hr8
          obtain ⟨A8, c8, hv8, _⟩ := ownsRow_slice hr8
          subst hv8
          have HS8 := Lib.hid (SAt.own hr8 (by decide))
          have HH8 := Lib.hid (HH4.out.keep (hb8.block _ HLH.out) (fun q hq => hb8.block q (HROW4.out q hq)))
          have HB8 := Lib.hid (HB4.out.trans (hb8.mono (Nat.le_of_lt HLH.out)))
          clear hr8 hb8
          go_wp2_with fail
          refine (len_any K _ _ v4 _ _ _ HH8.out 0 rfl).mono ?_
          rintro e w' ⟨rfl, rfl⟩
          go_wp2_with fail
          refine (permuted_yes _ _ _ _ _ _ _ xs _ HS8.out (HX.out.stays HB8.out) (by omega) HPM.out).mono ?_
          rintro e w9 ⟨rfl, hb9⟩
          have HB9 := Lib.hid (bthen HB8.out hb9 (Nat.le_refl _))
          clear hb9
          go_wp2_with fail
          refine (sorted_any m A c k xs _ (HX.out.stays HB9.out) hc (by omega)).mono ?_
          rintro e w10 ⟨v10, rfl, hr10, hb10⟩
          rw [msortL_len, HX.out.1] at hr10
          obtain ⟨A10, c10, hv10, _⟩ := ownsRow_slice hr10
          subst hv10
          have HS10 := Lib.hid (SAt.own hr10 (by decide))
          have HB10 := Lib.hid (bthen HB9.out hb10 (Nat.le_refl _))
          clear hr10 hb10
          go_wp2_with fail
          refine (permuted_yes _ _ _ _ _ _ _ xs _ HS10.out (HX.out.stays HB10.out) (by omega) (msortL_perm _ _ _)).mono ?_
          rintro e w11 ⟨rfl, hb11⟩
          have HB11 := Lib.hid (bthen HB10.out hb11 (Nat.le_refl _))
          clear hb11
          go_wp2_with fail
          refine (example_any _).mono ?_
          rintro e w12 ⟨rfl, hb12⟩
          have HB12 := Lib.hid (bthen HB11.out hb12 (Nat.le_refl _))
          clear hb12
          go_wp2
          go_ret
          exact ⟨rfl, HB12.out⟩
end Go.Proofs.Ytndbdgadijbhnaa
