/-
  sorted; the chapter's examples. Printed by gen/hpw1.py.
-/
import Derived.Test.YtndbdgadijbhnaaHlaw2
namespace Go.Proofs.Ytndbdgadijbhnaa
open Go.RowKit

set_option maxHeartbeats 400000 in
theorem sorted_0 (A : Option Addr) (c n : Nat) (xs : List Pair) (w : World) (hx : SAt pairC w A n xs) (hc : n ≤ c) (h1000 : n ≤ 1000) : Calls Try.prog 21 #[.int .i64 0, .slice A n c] w fun e w' => MadeRow pairC w 28 (msortL (ltP 0) n xs) e w' := by
  have HX := Lib.hid hx
  clear hx
  go_enter Try.func21, Try.ntmps21
  go_wp2_with fail
  refine (sortP_any _ (ltP 0) up_fn n A c n xs _ HX.out (Nat.le_refl _) hc h1000).mono ?_
  rintro e w1 ⟨v, rfl, hr, hb⟩
  have HR := Lib.hid hr
  have HB := Lib.hid hb
  clear hr hb
  go_wp2
  go_ret
  exact ⟨_, rfl, HR.out, HB.out⟩
set_option maxHeartbeats 400000 in
theorem sorted_1 (A : Option Addr) (c n : Nat) (xs : List Pair) (w : World) (hx : SAt pairC w A n xs) (hc : n ≤ c) (h1000 : n ≤ 1000) : Calls Try.prog 21 #[.int .i64 1, .slice A n c] w fun e w' => MadeRow pairC w 28 (msortL (ltP 1) n xs) e w' := by
  have HX := Lib.hid hx
  clear hx
  go_enter Try.func21, Try.ntmps21
  go_wp2_with fail
  refine (sortP_any _ (ltP 1) down_fn n A c n xs _ HX.out (Nat.le_refl _) hc h1000).mono ?_
  rintro e w1 ⟨v, rfl, hr, hb⟩
  have HR := Lib.hid hr
  have HB := Lib.hid hb
  clear hr hb
  go_wp2
  go_ret
  exact ⟨_, rfl, HR.out, HB.out⟩
set_option maxHeartbeats 400000 in
theorem sorted_2 (A : Option Addr) (c n : Nat) (xs : List Pair) (w : World) (hx : SAt pairC w A n xs) (hc : n ≤ c) (h1000 : n ≤ 1000) : Calls Try.prog 21 #[.int .i64 2, .slice A n c] w fun e w' => MadeRow pairC w 28 (msortL (ltP 2) n xs) e w' := by
  have HX := Lib.hid hx
  clear hx
  go_enter Try.func21, Try.ntmps21
  go_wp2_with fail
  refine (sortP_any _ (ltP 2) byRest_fn n A c n xs _ HX.out (Nat.le_refl _) hc h1000).mono ?_
  rintro e w1 ⟨v, rfl, hr, hb⟩
  have HR := Lib.hid hr
  have HB := Lib.hid hb
  clear hr hb
  go_wp2
  go_ret
  exact ⟨_, rfl, HR.out, HB.out⟩
set_option maxHeartbeats 400000 in
theorem sorted_3 (A : Option Addr) (c n : Nat) (xs : List Pair) (w : World) (hx : SAt pairC w A n xs) (hc : n ≤ c) (h1000 : n ≤ 1000) : Calls Try.prog 21 #[.int .i64 3, .slice A n c] w fun e w' => MadeRow pairC w 28 (msortL (ltP 3) n xs) e w' := by
  have HX := Lib.hid hx
  clear hx
  go_enter Try.func21, Try.ntmps21
  go_wp2_with fail
  refine (sortP_any _ (ltP 3) always_fn n A c n xs _ HX.out (Nat.le_refl _) hc h1000).mono ?_
  rintro e w1 ⟨v, rfl, hr, hb⟩
  have HR := Lib.hid hr
  have HB := Lib.hid hb
  clear hr hb
  go_wp2
  go_ret
  exact ⟨_, rfl, HR.out, HB.out⟩
set_option maxHeartbeats 400000 in
theorem sorted_4 (A : Option Addr) (c n : Nat) (xs : List Pair) (w : World) (hx : SAt pairC w A n xs) (hc : n ≤ c) (h1000 : n ≤ 1000) (m : Int) (hm : ¬ (m = 0 ∨ m = 1 ∨ m = 2 ∨ m = 3)) : Calls Try.prog 21 #[.int .i64 m, .slice A n c] w fun e w' => MadeRow pairC w 28 (msortL (ltP m) n xs) e w' := by
  have HX := Lib.hid hx
  clear hx
  obtain ⟨m0, m1, m2, m3⟩ : ¬ m = 0 ∧ ¬ m = 1 ∧ ¬ m = 2 ∧ ¬ m = 3 := by omega
  have HM := Lib.hid (ltP_4 hm)
  clear hm
  go_enter Try.func21, Try.ntmps21
  go_wp2_with fail
  refine (sortP_any _ (ltP 4) notAbove_fn n A c n xs _ HX.out (Nat.le_refl _) hc h1000).mono ?_
  rintro e w1 ⟨v, rfl, hr, hb⟩
  have HR := Lib.hid hr
  have HB := Lib.hid hb
  clear hr hb
  go_wp2
  go_ret
  exact ⟨_, rfl, by rw [HM.out]; exact HR.out, HB.out⟩
theorem sorted_any (m : Int) (A : Option Addr) (c n : Nat) (xs : List Pair) (w : World) (hx : SAt pairC w A n xs) (hc : n ≤ c) (h1000 : n ≤ 1000) : Calls Try.prog 21 #[.int .i64 m, .slice A n c] w fun e w' => MadeRow pairC w 28 (msortL (ltP m) n xs) e w' := by
  by_cases h0 : m = 0
  · subst h0; exact sorted_0 A c n xs w hx hc h1000
  by_cases h1 : m = 1
  · subst h1; exact sorted_1 A c n xs w hx hc h1000
  by_cases h2 : m = 2
  · subst h2; exact sorted_2 A c n xs w hx hc h1000
  by_cases h3 : m = 3
  · subst h3; exact sorted_3 A c n xs w hx hc h1000
  exact sorted_4 A c n xs w hx hc h1000 m (by omega)
/-- the nodes behind the first k pushes -/
def pushTo (lt : Pair → Pair → Bool) (xs : List Pair) : Nat → List Node
  | 0 => []
  | k + 1 => pushN lt (pushTo lt xs k) (gp xs k) (k : Nat)
theorem pushTo_len (lt : Pair → Pair → Bool) (xs : List Pair) (k : Nat) : (pushTo lt xs k).length = k := by
  induction k with
  | zero => rfl
  | succ k ih => rw [pushTo, pushN_len, ih]
theorem HeapAt.base_le {w : World} {base b' hb : Nat} {K : FuncId} {v : Value} {ns : List Node} {pu : Int} (h : HeapAt w base hb K v ns pu) (hb' : b' ≤ base) : HeapAt w b' hb K v ns pu :=
  ⟨Nat.le_trans hb' h.hb0, h.less, h.row, h.cnt, h.fr1, h.fr2, ownsRow_base h.own hb', h.ne⟩
theorem HeapAt.below {w w' : World} {base hb : Nat} {K : FuncId} {v : Value} {ns : List Node} {pu : Int} (h : HeapAt w base hb K v ns pu) (hbase : base ≤ w.heap.size) (ha : Asd hb v.ownBlock w w') : Below base w w' :=
  ha.toBelow hbase h.hb0 (fun k hk => (h.own.lt k hk).1)
theorem lit_at {α : Type} (C : Codec α) (w : World) (xs : List α) (n : Nat) (cs : Array Value) (hn : xs.length = n) (hc : cs.toList = C.all xs) (h63 : n ≤ maxLen) (hs : 0 < C.sz) (t : TypeId) :
    SAt C (w.alloc (.cells cs t)) (some ⟨w.heap.size, 0, none⟩) n xs := SAt.own (own_lit C w 0 (by omega) xs n cs hn hc h63 t) hs
/-- what a slice that is no part of the heap reads as, behind a call of the heap -/
theorem SAt.asd {α : Type} {C : Codec α} {w w' : World} {b o n hb : Nat} {rb : Option Nat} {xs : List α} (h : SAt C w (some ⟨b, o, none⟩) n xs) (ha : Asd hb rb w w') (h1 : b ≠ hb) (h2 : some b ≠ rb) : SAt C w' (some ⟨b, o, none⟩) n xs := by
  refine ⟨h.1, fun hn => ?_⟩
  obtain ⟨b', o', e, hc⟩ := h.2 hn
  injection e with e
  injection e with e1 e2
  subst e1 e2
  refine ⟨b, o, rfl, fun k hk j u hu => ?_⟩
  have hc' := hc k hk j u hu
  exact (World.cell?_of_block (a := ⟨b, o + k * C.sz + j, none⟩) (ha.block b (cell?_block_lt hc') h1 h2)).trans hc'
def exL : List Pair := [⟨3, 0⟩, ⟨1, 0⟩, ⟨2, 0⟩]
def exD : List Pair := [⟨1, 0⟩, ⟨2, 0⟩, ⟨3, 0⟩]
def exS : List Pair := [⟨1, 1⟩, ⟨0, 2⟩, ⟨1, 3⟩, ⟨0, 4⟩]
def exT : List Pair := [⟨0, 2⟩, ⟨0, 4⟩, ⟨1, 1⟩, ⟨1, 3⟩]
theorem ex_first : (gn (pushTo (ltP 0) exL 3) 0).p = ⟨1, 0⟩ := by decide +kernel
theorem ex_drain : drainL (ltP 0) 3 (pushTo (ltP 0) exL 3) = exD := by decide +kernel
theorem ex_sort : msortL (ltP 0) 4 exS = exT := by simp [msortL, mergeL, exS, exT, ltP, lessB]
theorem ex_at : ∀ k, k < 3 → gp exL k = ⟨(gp exL k).key, 0⟩ := by decide +kernel
/-- the literal of the example -/
def intC : Codec Int where
  cs x := [.int .i64 x]
  sz := 1
  d := 0
  len _ := rfl
  one x u hu := by
    simp at hu
    subst hu
    rfl
theorem int_cell {w : World} {b o n k : Nat} {xs : List Int} (h : SAt intC w (some ⟨b, o, none⟩) n xs) (hk : k < n) : w.cell? ⟨b, o + k, none⟩ = some (.int .i64 (intC.g xs k)) := by
  have hc := h.cells hk 0 _ rfl
  have e : o + k * intC.sz + 0 = o + k := by show o + k * 1 + 0 = o + k; omega
  rwa [e] at hc
theorem ex_key : ∀ k, k < 3 → intC.g [3, 1, 2] k = (gp exL k).key := by decide +kernel

set_option maxRecDepth 100000 in
set_option maxHeartbeats 4000000 in
theorem example_any (w : World) : Calls Try.prog 11 #[] w fun e w' => e = .returned (.bool true) ∧ Below w.heap.size w w' := by
  go_enter Try.func11, Try.ntmps11
  go_wp2_with fail
  refine (made_any 0 _).mono ?_
  rintro e w1 ⟨K, hK, rfl, hh1, hb1⟩
  have HK := Lib.hid hK
  have hl1 := hh1.lt
  have hLit := lit_at intC w1 [3, 1, 2] 3 #[.int .i64 3, .int .i64 1, .int .i64 2] rfl rfl (by unfold maxLen; omega) (by decide) 3
  have HL1 := Lib.hid hl1
  obtain ⟨L, hL⟩ : ∃ L, L = w1.heap.size := ⟨_, rfl⟩
  have HH1 := Lib.hid (hh1.stays (al1 w1 (.cells #[.int .i64 3, .int .i64 1, .int .i64 2] 3)))
  have HB1 := Lib.hid (hb1.trans ((al1 w1 (.cells #[.int .i64 3, .int .i64 1, .int .i64 2] 3)).mono hb1.size))
  have HLH := Lib.hid (show L ≠ w.heap.size by omega)
  rw [← hL] at hLit
  have HLit := Lib.hid hLit
  clear hh1 hb1 hK hl1 hLit
  go_upto_block 0 with fail
  rw [← hL]
  clear hL
  obtain ⟨W2, hW2⟩ : ∃ W2, W2 = w1.alloc (.cells #[.int .i64 3, .int .i64 1, .int .i64 2] 3) := ⟨_, rfl⟩
  rw [← hW2] at HH1 HB1 HLit
  rw [← hW2]
  clear hW2
  go_wp2
  go_loopw [13] (fun i wr => ∃ (k : Nat) (v : Value), k ≤ 3 ∧ i = .int .i64 k ∧ Hid (HeapAt wr w.heap.size w.heap.size K v (pushTo (ltP 0) exL k) (k : Nat)) ∧ Hid (SAt intC wr (some ⟨L, 0, none⟩) 3 [3, 1, 2]) ∧ Hid (some L ≠ v.ownBlock) ∧ Hid (Below w.heap.size w wr)) (fun i _ => 3 - (intOf i).toNat)
  case atStart => exact ⟨0, _, by omega, rfl, HH1, HLit, Lib.hid (by simp [Value.ownBlock]), HB1⟩
  case round =>
    obtain ⟨k, v, hk3, rfl, HH, HLk, HV, HB⟩ := hrel
    have k0 : (0 : Int) ≤ (k : Int) := by omega
    by_cases hlt : k < 3
    · have hlt' : (k : Int) < 3 := by omega
      have c0 := int_cell HLk.out hlt
      rw [Nat.zero_add, ex_key k hlt] at c0
      have HAT := Lib.hid (ex_at k hlt)
      have HPL := Lib.hid (pushTo_len (ltP 0) exL k)
      go_wp2_with fail
      refine (push_any K (ltP 0) HK.out _ _ v _ k ⟨(gp exL k).key, 0⟩ _ HH.out k HPL.out (by omega) (by omega)).mono ?_
      rintro e w3 ⟨rfl, v3, hh3, hr3, ha3⟩
      have HB3 := Lib.hid (HB.out.trans (HH.out.below HB.out.size ha3))
      have HL3 := Lib.hid (HLk.out.asd ha3 HLH.out HV.out)
      have HV3 : Hid (some L ≠ v3.ownBlock) := Lib.hid (by
        rcases hr3 with h | h
        · rw [h]; exact HV.out
        · intro e
          have h1 := h L e.symm
          have h2 := HLk.out.lt (k := 0) (by omega) (by decide)
          omega)
      have HH3 : Hid (HeapAt w3 w.heap.size w.heap.size K v3 (pushTo (ltP 0) exL (k + 1)) ((k + 1 : Nat) : Int)) := Lib.hid (by rw [pushTo, HAT.out]; exact hh3)
      clear hh3 hr3 ha3 c0
      go_wp2
      go_roundw
      case rel => exact ⟨k + 1, v3, by omega, by go_num, HH3, HL3, HV3, HB3⟩
      case measure => simp [intOf]; omega
    · obtain rfl : k = 3 := by omega
      have HPL := Lib.hid (pushTo_len (ltP 0) exL 3)
      have hpk := fun u (hu : HeapAt u w.heap.size w.heap.size K v (pushTo (ltP 0) exL 3) ((3 : Nat) : Int)) => peek_any K _ _ v _ _ u hu 3 HPL.out (by omega)
      rw [ex_first] at hpk
      have HPK := Lib.hid hpk
      clear hpk
      go_wp2_with fail
      refine (HPK.out _ HH.out).mono ?_
      rintro e w4 ⟨rfl, hb4⟩
      obtain ⟨W5, hW5⟩ : ∃ W5, W5 = w4.alloc (.cells #[.int .i64 1, .int .i64 0] 28) := ⟨_, rfl⟩
      obtain ⟨X, hX⟩ : ∃ X, X = w4.heap.size := ⟨_, rfl⟩
      have hb45 : Below wr.heap.size wr W5 := by rw [hW5]; exact balloc hb4 _ (Nat.le_refl _)
      have HX5 : Hid (Box2 W5 X ⟨1, 0⟩) := Lib.hid (by rw [hW5]; exact Box2.new w4 ⟨1, 0⟩ _ _ hX)
      have HH5 := Lib.hid (HH.out.stays hb45)
      have HB5 := Lib.hid (bthen HB.out hb45 (Nat.le_refl _))
      have HXW : Hid (wr.heap.size ≤ X) := Lib.hid (by rw [hX]; exact hb4.size)
      have HRV : Hid (∀ q, v.ownBlock = some q → q < wr.heap.size) := Lib.hid (fun q hq => (HH.out.own.lt q hq).2)
      have HHL : Hid (w.heap.size < wr.heap.size) := Lib.hid HH.out.lt
      clear hb4 hb45
      go_upto_region 10 with fail
      rw [← hW5, ← hX]
      clear hW5 hX
      have hdr := fun u (hu : HeapAt u w.heap.size w.heap.size K v (pushTo (ltP 0) exL 3) ((3 : Nat) : Int)) => drain_any K (ltP 0) HK.out _ _ v _ _ u hu 3 HPL.out (by omega)
      rw [ex_drain] at hdr
      have HDR := Lib.hid hdr
      clear hdr
      go_wp2_with fail
      refine (HDR.out _ HH5.out).mono ?_
      rintro e w6 ⟨vo, v6, rfl, hro, hh6, hv6, ha6⟩
      obtain ⟨Ao, co, hvo, _⟩ := ownsRow_slice hro
      subst hvo
      have HO6 := Lib.hid (SAt.own hro (by decide))
      have HH6 := Lib.hid hh6
      have HB6 := Lib.hid (HB5.out.trans (HH5.out.below HB5.out.size ha6))
      have HX6 := Lib.hid (HX5.out.asd ha6 (by have := HXW.out; have := HHL.out; omega) (fun e => by have := HRV.out X e.symm; have := HXW.out; omega))
      clear hro hh6 hv6 ha6
      have hLit := lit_at pairC w6 exS 4 #[.int .i64 1, .int .i64 1, .int .i64 0, .int .i64 2, .int .i64 1, .int .i64 3, .int .i64 0, .int .i64 4] rfl rfl (by unfold maxLen; omega) (by decide) 28
      have HLit := Lib.hid hLit
      have hal := al1 w6 (.cells #[.int .i64 1, .int .i64 1, .int .i64 0, .int .i64 2, .int .i64 1, .int .i64 3, .int .i64 0, .int .i64 4] 28)
      have HO7 := Lib.hid (HO6.out.stays hal)
      have HH7 := Lib.hid (HH6.out.stays hal)
      have HX7 := Lib.hid (HX6.out.stays hal)
      have HB7 := Lib.hid (bthen HB6.out hal (Nat.le_refl _))
      clear hLit hal
      have hso := fun A u (hu : SAt pairC u A 4 exS) => sortP_any _ (ltP 0) up_fn 4 A 4 4 exS u hu (Nat.le_refl _) (Nat.le_refl _) (by omega)
      rw [ex_sort] at hso
      have HSO := Lib.hid hso
      clear hso
      go_wp2_with fail
      refine (HSO.out _ _ HLit.out).mono ?_
      rintro e w8 ⟨vs, rfl, hrs, hb8⟩
      obtain ⟨As, cs, hvs, _⟩ := ownsRow_slice hrs
      subst hvs
      have HS8 := Lib.hid (SAt.own hrs (by decide))
      have HO8 := Lib.hid (HO7.out.stays hb8)
      have HH8 := Lib.hid (HH7.out.stays hb8)
      have HX8 := Lib.hid (HX7.out.stays hb8)
      have HB8 := Lib.hid (bthen HB7.out hb8 (Nat.le_refl _))
      clear hrs hb8
      obtain ⟨x0, x1, _, _⟩ := HX8.out
      go_wp2_with fail
      refine (len_any K _ _ v6 _ _ _ HH8.out 0 rfl).mono ?_
      rintro e w' ⟨rfl, rfl⟩
      have hLit := lit_at pairC w8 exD 3 #[.int .i64 1, .int .i64 0, .int .i64 2, .int .i64 0, .int .i64 3, .int .i64 0] rfl rfl (by unfold maxLen; omega) (by decide) 28
      have HLit9 := Lib.hid hLit
      have hal := al1 w8 (.cells #[.int .i64 1, .int .i64 0, .int .i64 2, .int .i64 0, .int .i64 3, .int .i64 0] 28)
      have HO9 := Lib.hid (HO8.out.stays hal)
      have HS9 := Lib.hid (HS8.out.stays hal)
      have HB9 := Lib.hid (bthen HB8.out hal (Nat.le_refl _))
      clear hLit hal
      go_wp2_with fail
      refine (same_yes Ao _ 3 3 co 3 exD _ HO9.out HLit9.out (by omega)).mono ?_
      rintro e w' ⟨rfl, q, rfl⟩
      obtain ⟨W10, hW10⟩ : ∃ W10, W10 = (w8.alloc (.cells #[.int .i64 1, .int .i64 0, .int .i64 2, .int .i64 0, .int .i64 3, .int .i64 0] 28)).drewN q := ⟨_, rfl⟩
      have HS10 : Hid (SAt pairC W10 As 4 exT) := Lib.hid (by rw [hW10]; exact HS9.out.drewN q)
      have HB10 : Hid (Below w.heap.size w W10) := Lib.hid (by rw [hW10]; exact bdrewN HB9.out q)
      rw [← hW10]
      clear hW10 x0 x1
      have hLit := lit_at pairC W10 exT 4 #[.int .i64 0, .int .i64 2, .int .i64 0, .int .i64 4, .int .i64 1, .int .i64 1, .int .i64 1, .int .i64 3] rfl rfl (by unfold maxLen; omega) (by decide) 28
      have HLit11 := Lib.hid hLit
      have hal := al1 W10 (.cells #[.int .i64 0, .int .i64 2, .int .i64 0, .int .i64 4, .int .i64 1, .int .i64 1, .int .i64 1, .int .i64 3] 28)
      have HS11 := Lib.hid (HS10.out.stays hal)
      have HB11 := Lib.hid (bthen HB10.out hal (Nat.le_refl _))
      clear hLit hal
      go_wp2_with fail
      refine (same_yes As _ 4 4 cs 4 exT _ HS11.out HLit11.out (by omega)).mono ?_
      rintro e w' ⟨rfl, q2, rfl⟩
      go_wp2
      go_ret
      exact ⟨rfl, bdrewN HB11.out q2⟩
end Go.Proofs.Ytndbdgadijbhnaa
