/-
  The walk of HeapPops. Printed by gen/hpw3.py.
-/
import Derived.Test.YtndbdgadijbhnaaHw2
namespace Go.Proofs.Ytndbdgadijbhnaa
open Go.RowKit

theorem pops_least {lt : Pair → Pair → Bool} {f : Pair → Int} (hk : Keyed lt f) {ns : List Node} {g : Nat} (hn : ns.length = g + 1) (h : HeapOk lt ns) : ∀ x ∈ popN lt ns, f (gn ns 0).p ≤ f x.p := fun x hx => by
  have h1 := (pop_perm lt hn).subset (List.mem_cons_of_mem _ hx)
  have := (le_iff hk _ _).1 (root_all hk h x h1)
  omega
theorem less_no {lt : Pair → Pair → Bool} {f : Pair → Int} (hk : Keyed lt f) {x y : Pair} (h : f y ≤ f x) : lt x y = false := by
  rw [hk]
  exact decide_eq_false (by omega)
theorem heap_row_lt {w : World} {base hb : Nat} {K : FuncId} {v : Value} {ns : List Node} {pu : Int} (h : HeapAt w base hb K v ns pu) {q : Nat} (hq : v.ownBlock = some q) : q < w.heap.size := (h.own.lt q hq).2

theorem Box2.put {w : World} {B : Nat} {x : Pair} (h : Box2 w B x) (y : Pair) : Box2 ((w.setCell ⟨B, 0, none⟩ (.int .i64 y.key)).setCell ⟨B, 1, none⟩ (.int .i64 y.mark)) B y := by
  have n1 : ∀ (a b : Nat), a ≠ b → (⟨B, a, none⟩ : Addr) ≠ ⟨B, b, none⟩ := fun a b h e => by injection e with _ e; exact h e
  refine ⟨?_, ?_, by simpa using h.2.2.1, by simpa using h.2.2.2⟩
  · exact (World.cell?_setCell_other _ _ _ _ (n1 1 0 (by omega))).trans (World.cell?_setCell_same _ _ _ h.1)
  · exact World.cell?_setCell_same _ _ _ ((World.cell?_setCell_other _ _ _ _ (n1 0 1 (by omega))).trans h.2.1)
set_option maxRecDepth 100000 in
set_option maxHeartbeats 2000000 in
theorem pops_walk (m : Int) (A : Option Addr) (n c : Nat) (xs : List Pair) (w : World) (_h : I64 m) (hx : SAt pairC w A n xs) (_g : True) :
    Calls Try.prog 6 #[.int .i64 m, .slice A n c] w fun e w' => e = .returned (.bool true) ∧ Below w.heap.size w w' := by
  have HX := Lib.hid hx
  clear hx
  by_cases hm0 : m < 0
  · go_enter Try.func6, Try.ntmps6
    go_wp2_with fail
    refine (made_any m _).mono ?_
    rintro e w1 ⟨K, hK, rfl, hh1, hb1⟩
    have HB1 := Lib.hid hb1
    clear hK hh1 hb1
    go_wp2_with fail
    refine (example_any _).mono ?_
    rintro e w2 ⟨rfl, hb2⟩
    have HB2 := Lib.hid (bthen HB1.out hb2 (Nat.le_refl _))
    clear hb2
    go_wp2
    go_ret
    exact ⟨rfl, HB2.out⟩
  by_cases hm2 : 2 < m
  · go_enter Try.func6, Try.ntmps6
    go_wp2_with fail
    refine (made_any m _).mono ?_
    rintro e w1 ⟨K, hK, rfl, hh1, hb1⟩
    have HB1 := Lib.hid hb1
    clear hK hh1 hb1
    go_wp2_with fail
    refine (example_any _).mono ?_
    rintro e w2 ⟨rfl, hb2⟩
    have HB2 := Lib.hid (bthen HB1.out hb2 (Nat.le_refl _))
    clear hb2
    go_wp2
    go_ret
    exact ⟨rfl, HB2.out⟩
  by_cases h200 : (200 : Int) < (n : Int)
  · go_enter Try.func6, Try.ntmps6
    go_wp2_with fail
    refine (made_any m _).mono ?_
    rintro e w1 ⟨K, hK, rfl, hh1, hb1⟩
    have HB1 := Lib.hid hb1
    clear hK hh1 hb1
    go_wp2_with fail
    refine (example_any _).mono ?_
    rintro e w2 ⟨rfl, hb2⟩
    have HB2 := Lib.hid (bthen HB1.out hb2 (Nat.le_refl _))
    clear hb2
    go_wp2
    go_ret
    exact ⟨rfl, HB2.out⟩
  have hn200 : n ≤ 200 := by omega
  obtain ⟨f, hf⟩ := keyed_any (m := m) (by omega) (by omega)
  have HF := Lib.hid hf
  clear hf
  go_enter Try.func6, Try.ntmps6
  go_wp2_with fail
  refine (made_any m _).mono ?_
  rintro e w1 ⟨K, hK, rfl, hh1, hb1⟩
  have HK := Lib.hid hK
  have HH1 := Lib.hid hh1
  have HB1 := Lib.hid hb1
  clear hK hh1 hb1
  go_wp2
  go_loopw [36] (fun i wr => ∃ (k : Nat) (v : Value), k ≤ n ∧ i = .int .i64 k ∧ Hid (HeapAt wr w.heap.size w.heap.size K v (pushTo (ltP m) xs k) (k : Nat)) ∧ Hid (Below w.heap.size w wr)) (fun i _ => n - (intOf i).toNat)
  case atStart => exact ⟨0, _, by omega, rfl, HH1, HB1⟩
  case round =>
    obtain ⟨k, v, hkn, rfl, HH, HB⟩ := hrel
    have k0 : (0 : Int) ≤ (k : Int) := by omega
    by_cases hlt : k < n
    · have hlt' : (k : Int) < (n : Int) := by omega
      obtain ⟨b, o, hA, _⟩ := HX.out.at_ hlt
      subst hA
      obtain ⟨c0, c1⟩ := pair_cells (HX.out.stays HB.out) hlt
      have HPL := Lib.hid (pushTo_len (ltP m) xs k)
      obtain ⟨W, hW⟩ : ∃ W, W = wr.alloc (.cells #[.int .i64 (gp xs k).key, .int .i64 (gp xs k).mark] 28) := ⟨_, rfl⟩
      have hbW : Below wr.heap.size wr W := by rw [hW]; exact al1 _ _
      have HHW := Lib.hid (HH.out.stays hbW)
      have HBW := Lib.hid (bthen HB.out hbW (Nat.le_refl _))
      have HXW : Hid (Box2 W wr.heap.size (gp xs k)) := Lib.hid (by rw [hW]; exact Box2.new wr _ _ _ rfl)
      clear c0 c1 hbW
      obtain ⟨c0, c1⟩ := pair_cells (HX.out.stays HB.out) hlt
      go_upto_region 7 with fail
      rw [← hW]
      clear hW c0 c1
      obtain ⟨x0, x1, _, _⟩ := HXW.out
      go_wp2_with fail
      refine (push_any K (ltP m) HK.out _ _ v _ k (gp xs k) _ HHW.out k HPL.out (by omega) (by omega)).mono ?_
      rintro e w3 ⟨rfl, v3, hh3, _, ha3⟩
      have HB3 := Lib.hid (HBW.out.trans (HHW.out.below HBW.out.size ha3))
      have HH3 := Lib.hid hh3
      clear hh3 ha3 x0 x1
      go_wp2
      go_roundw
      case rel => exact ⟨k + 1, v3, by omega, by go_num, HH3, HB3⟩
      case measure => simp [intOf]; omega
    · obtain rfl : k = n := by omega
      have hd : ¬ ((k : Int) < (k : Int)) := by omega
      have HPL := Lib.hid (pushTo_len (ltP m) xs k)
      have HOK := Lib.hid (holds_all HF.out HX.out.1).ok
      obtain ⟨ow, how⟩ : ∃ ow, v.ownBlock = ow := ⟨_, rfl⟩
      obtain ⟨N0, hN0⟩ : ∃ N0, N0 = pushTo (ltP m) xs k := ⟨_, rfl⟩
      rw [← hN0] at HH HPL HOK
      clear hN0
      obtain ⟨L, hL⟩ : ∃ L, L = wr.heap.size := ⟨_, rfl⟩
      obtain ⟨W, hW⟩ : ∃ W, W = wr.alloc (.cells #[.int .i64 0, .int .i64 0] 28) := ⟨_, rfl⟩
      have hbW : Below wr.heap.size wr W := by rw [hW]; exact al1 _ _
      have HLB : Hid (Box2 W L ⟨0, 0⟩) := Lib.hid (by rw [hW]; exact Box2.new wr ⟨0, 0⟩ _ _ hL)
      have HH0 := Lib.hid (HH.out.stays hbW)
      have HB0 := Lib.hid (bthen HB.out hbW (Nat.le_refl _))
      have HLH : Hid (w.heap.size < L) := Lib.hid (by rw [hL]; exact HH.out.lt)
      have HLR : Hid (∀ q, ow = some q → q < L) := Lib.hid (fun q hq => by rw [hL]; exact heap_row_lt HH.out (how.trans hq))
      have HOW := Lib.hid how
      have hkk : (0 : Int) ≤ (k : Int) := by omega
      clear how hbW HH HB hd
      go_upto_block 2 with fail
      rw [← hW, ← hL]
      clear hW hL
      go_wp2
      go_loopg [46] k (fun g si wr => ∃ (j : Nat) (vj : Value) (nj : List Node) (la : Pair), j + g = k ∧ si = .int .i64 j ∧ Hid (nj.length = g) ∧ Hid (HeapOk (ltP m) nj) ∧ Hid (0 < j → ∀ x ∈ nj, f la ≤ f x.p) ∧ Hid (HeapAt wr w.heap.size w.heap.size K vj nj (k : Nat)) ∧ Hid (vj.ownBlock = ow) ∧ Hid (Box2 wr L la) ∧ Hid (Below w.heap.size w wr))
      case atStart => exact ⟨0, v, N0, ⟨0, 0⟩, by omega, rfl, HPL, HOK, Lib.hid (fun h => absurd h (by omega)), HH0, HOW, HLB, HB0⟩
      case round =>
        obtain ⟨j, vj, nj, la, hjg, rfl, HL, HOKj, HLA, HHj, HVj, HLBj, HBj⟩ := hrel
        have j0 : (0 : Int) ≤ (j : Int) := by omega
        cases gk with
        | succ g2 =>
          have hlt' : (j : Int) < (k : Int) := by omega
          go_wp2_with fail
          refine (peek_any K _ _ vj nj _ _ HHj.out (g2 + 1) HL.out (by omega)).mono ?_
          rintro e w4 ⟨rfl, hb4⟩
          obtain ⟨X, hX⟩ : ∃ X, X = w4.heap.size := ⟨_, rfl⟩
          obtain ⟨W5, hW5⟩ : ∃ W5, W5 = w4.alloc (.cells #[.int .i64 (gn nj 0).p.key, .int .i64 (gn nj 0).p.mark] 28) := ⟨_, rfl⟩
          have hb5 : Below wr.heap.size wr W5 := by rw [hW5]; exact balloc hb4 _ (Nat.le_refl _)
          have HX5 : Hid (Box2 W5 X (gn nj 0).p) := Lib.hid (by rw [hW5]; exact Box2.new w4 _ _ _ hX)
          have HXL : Hid (L < X) := Lib.hid (by have h1 := HLBj.out.lt; have h2 := hb4.size; omega)
          have HH5 := Lib.hid (HHj.out.stays hb5)
          have HB5 := Lib.hid (bthen HBj.out hb5 (Nat.le_refl _))
          have HLB5 := Lib.hid (HLBj.out.stays hb5)
          clear hb4 hb5
          go_upto_region 14 with fail
          rw [← hW5, ← hX]
          clear hW5 hX
          go_wp2_with fail
          refine (pop_any K (ltP m) HK.out _ _ vj nj _ _ HH5.out g2 HL.out (by omega)).mono ?_
          rintro e w6 ⟨rfl, v6, hh6, hv6, ha6⟩
          rw [HVj.out] at hv6 ha6
          have hLo : some L ≠ ow := fun e => by have := HLR.out L e.symm; omega
          have hXo : some X ≠ ow := fun e => by have := HLR.out X e.symm; have := HXL.out; omega
          have HX6 := Lib.hid (HX5.out.asd ha6 (by have := HXL.out; have := HLH.out; omega) hXo)
          have HLB6 := Lib.hid (HLB5.out.asd ha6 (by have := HLH.out; omega) hLo)
          have HB6 := Lib.hid (HB5.out.trans (HH5.out.below HB5.out.size (by rw [HVj.out]; exact ha6)))
          have HH6 := Lib.hid hh6
          have HV6 := Lib.hid hv6
          clear hh6 hv6 ha6 hLo hXo
          obtain ⟨Y, hY⟩ : ∃ Y, Y = w6.heap.size := ⟨_, rfl⟩
          obtain ⟨W7, hW7⟩ : ∃ W7, W7 = w6.alloc (.cells #[.int .i64 (gn nj 0).p.key, .int .i64 (gn nj 0).p.mark] 28) := ⟨_, rfl⟩
          have hb7 : Below w6.heap.size w6 W7 := by rw [hW7]; exact al1 _ _
          have HY7 : Hid (Box2 W7 Y (gn nj 0).p) := Lib.hid (by rw [hW7]; exact Box2.new w6 _ _ _ hY)
          have HX7 := Lib.hid (HX6.out.stays hb7)
          have HLB7 := Lib.hid (HLB6.out.stays hb7)
          have HH7 := Lib.hid (HH6.out.stays hb7)
          have HB7 := Lib.hid (bthen HB6.out hb7 (Nat.le_refl _))
          clear hb7
          go_upto_region 15 with fail
          rw [← hW7, ← hY]
          clear hW7 hY
          have HPN := Lib.hid (popN_len (lt := ltP m) HL.out)
          have HNL := Lib.hid (pops_least HF.out HL.out HOKj.out)
          have HOK7 := Lib.hid (pop_ok HF.out HL.out HOKj.out)
          obtain ⟨x0, x1, _, _⟩ := HX7.out
          obtain ⟨y0, y1, _, _⟩ := HY7.out
          have hne := neq_pair (gn nj 0).p (gn nj 0).p
          rw [eqP_self] at hne
          have hcnt : ((g2 : Int) != (k : Int) - 1 - (j : Int)) = false := by rw [bne_eq_false_iff_eq]; omega
          by_cases hj0 : 0 < j
          · have hj0' : (0 : Int) < (j : Int) := by omega
            have hno := Lib.hid (less_no HF.out (HLA.out hj0 (gn nj 0) (gn_mem (k := 0) (by rw [HL.out]; omega))))
            obtain ⟨l0, l1, _, _⟩ := HLB7.out
            go_wp2_with fail
            refine (len_any K _ _ v6 _ _ _ HH7.out g2 HPN.out).mono ?_
            rintro e w' ⟨rfl, rfl⟩
            go_wp2_with fail
            refine (less_at m _ la false hno.out _).mono ?_
            rintro e w8 ⟨rfl, hb8⟩
            have HY8 := Lib.hid (HY7.out.stays hb8)
            have HLB8 := Lib.hid (HLB7.out.stays hb8)
            have HH8 := Lib.hid (HH7.out.stays hb8)
            have HB8 := Lib.hid (bthen HB7.out hb8 (Nat.le_refl _))
            clear hb8 x0 x1 y0 y1 l0 l1 hne
            obtain ⟨y0, y1, _, _⟩ := HY8.out
            obtain ⟨l0, l1, f0, f1⟩ := HLB8.out
            go_wp2
            go_roundg g2
            case rel => exact ⟨j + 1, v6, popN (ltP m) nj, (gn nj 0).p, by omega, by go_num, HPN, HOK7, Lib.hid (fun _ => HNL.out), Lib.hid ((HH8.out.far _ _ (Nat.ne_of_gt HLH.out) (fun e => by have := HLR.out L (HV6.out.symm.trans e); omega)).far _ _ (Nat.ne_of_gt HLH.out) (fun e => by have := HLR.out L (HV6.out.symm.trans e); omega)), HV6, Lib.hid (HLB8.out.put (gn nj 0).p), Lib.hid ((HB8.out.setCell (Nat.le_of_lt HLH.out) _).setCell (Nat.le_of_lt HLH.out) _)⟩
            case measure => omega
          · obtain rfl : j = 0 := by omega
            obtain ⟨l0, l1, f0, f1⟩ := HLB7.out
            go_wp2_with fail
            refine (len_any K _ _ v6 _ _ _ HH7.out g2 HPN.out).mono ?_
            rintro e w' ⟨rfl, rfl⟩
            go_wp2
            go_roundg g2
            case rel => exact ⟨1, v6, popN (ltP m) nj, (gn nj 0).p, by omega, by first | rfl | go_num, HPN, HOK7, Lib.hid (fun _ => HNL.out), Lib.hid ((HH7.out.far _ _ (Nat.ne_of_gt HLH.out) (fun e => by have := HLR.out L (HV6.out.symm.trans e); omega)).far _ _ (Nat.ne_of_gt HLH.out) (fun e => by have := HLR.out L (HV6.out.symm.trans e); omega)), HV6, Lib.hid (HLB7.out.put (gn nj 0).p), Lib.hid ((HB7.out.setCell (Nat.le_of_lt HLH.out) _).setCell (Nat.le_of_lt HLH.out) _)⟩
            case measure => omega
        | zero =>
          obtain rfl : j = k := by omega
          have hd : ¬ ((j : Int) < (j : Int)) := by omega
          go_wp2_with fail
          refine (pop_zero K _ _ vj nj _ _ HHj.out HL.out).mono ?_
          rintro e w4 ⟨rfl, hb4⟩
          have HB4 := Lib.hid (balloc (bthen HBj.out hb4 (Nat.le_refl _)) (.cells #[.int .i64 0, .int .i64 0] 28) (Nat.le_refl _))
          clear hb4
          go_wp2_with fail
          refine (example_any _).mono ?_
          rintro e w5 ⟨rfl, hb5⟩
          have HB5 := Lib.hid (bthen HB4.out hb5 (Nat.le_refl _))
          clear hb5
          go_wp2
          go_ret
          exact ⟨rfl, HB5.out⟩
end Go.Proofs.Ytndbdgadijbhnaa
