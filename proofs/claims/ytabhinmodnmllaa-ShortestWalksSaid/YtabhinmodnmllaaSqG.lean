/-
  Distances of the reference: the walk. Printed by gen/sp8.py.
-/
import Derived.Test.YtabhinmodnmllaaSqD
import Derived.BigQuiet
namespace Go.Proofs.Ytabhinmodnmllaa
open Go.RowKit

/-- what Distances leaves, in both packages -/
def DistR (l : List Edge) (n s : Int) (w : World) (e : Ending) (w' : World) : Prop :=
  (checkN n l [s] ≠ 0 → e = .returned (.tuple #[.slice none 0 0, .int .i64 (checkN n l [s])])) ∧
  (checkN n l [s] = 0 → ∃ A c, e = .returned (.tuple #[.slice A n.toNat c, .int .i64 0]) ∧ IntsAt w' A n.toNat (distL l n.toNat s.toNat)) ∧ Below w.heap.size w w'
theorem Dist.toR {l : List Edge} {n s : Int} {w w' : World} {e : Ending} (h : Dist l n s w e w') (hm : l.length ≤ 500 ∨ 4096 < l.length) : DistR l n s w e w' := by
  refine ⟨h.1, fun h0 => ?_, h.2.2⟩
  obtain ⟨out, A, c, rfl, h1, h2⟩ := h.2.1 h0
  have hg := checkN_good h0
  have hc := checkI_good hg.1
  have hs := hg.2 s List.mem_cons_self
  refine ⟨A, c, rfl, ?_⟩
  rw [← dist_plain (out := out) (by omega) (by omega) (fun y hy => by have := hc.2.2.2 y hy; rwa [← Int.toNat_of_nonneg hc.1] at this) (by have := hc.2.2.1; omega) (by rw [Int.toNat_of_nonneg hs.1]; exact h2)]
  exact h1
/-- the first k costs are divided -/
def DivTo (cs ds : List Int) (n k : Nat) : Prop := ds.length = n ∧ ∀ i, i < n → gi ds i = if i < k then (if gi cs i < 0 then gi cs i else gi cs i / 128) else gi cs i
theorem DivTo.start {cs : List Int} {n : Nat} (h : cs.length = n) : DivTo cs cs n 0 := ⟨h, fun i _ => by simp⟩
theorem DivTo.keep {cs ds : List Int} {n k : Nat} (h : DivTo cs ds n k) (hk : k < n) (h0 : gi ds k < 0) : DivTo cs ds n (k + 1) := by
  refine ⟨h.1, fun i hi => ?_⟩
  rw [h.2 i hi]
  have h1 := h.2 k hk
  rw [if_neg (by omega)] at h1
  by_cases e : i = k
  · subst e
    rw [if_neg (by omega), if_pos (by omega), if_pos (by omega)]
  · have e3 : (i < k + 1) ↔ i < k := by omega
    simp only [e3]
theorem DivTo.put {cs ds : List Int} {n k : Nat} (h : DivTo cs ds n k) (hk : k < n) (h0 : ¬ gi ds k < 0) : DivTo cs (ds.set k (gi ds k / 128)) n (k + 1) := by
  refine ⟨by rw [List.length_set]; exact h.1, fun i hi => ?_⟩
  rw [gi_put (by rw [h.1]; exact hk)]
  have h1 := h.2 k hk
  rw [if_neg (by omega)] at h1
  by_cases e : i = k
  · subst e
    rw [if_pos rfl, if_pos (by omega), ← h1, if_neg h0]
  · have e3 : (i < k + 1) ↔ i < k := by omega
    rw [if_neg e, h.2 i hi]
    simp only [e3]
theorem DivTo.end_ {l : List Edge} {ds : List Int} {n s : Nat} (h : DivTo (costsOf (turnL l) n s) ds n n) : ds = distL l n s := by
  apply gi_ext
  · rw [h.1, distL_len]
  · intro k hk
    rw [h.1] at hk
    rw [h.2 k hk, if_pos hk]
    unfold distL
    rw [gi_map (by rw [costs_len]; exact hk)]
theorem check_one {n s : Int} {l : List Edge} (h : checkI n l = 0) : checkN n l [s] = if s < 0 ∨ n ≤ s then 9 else 0 := by
  unfold checkN
  rw [if_neg (by omega)]
  simp [badN]
theorem check_first {n : Int} {l : List Edge} {ns : List Int} {c : Int} (h : checkI n l = c) (hc : ¬ c = 0) : checkN n l ns = c := checkN_err h hc

set_option maxRecDepth 100000 in
set_option maxHeartbeats 4000000 in
theorem rdist_any (A : Option Addr) (n s : Int) (m c : Nat) (l : List Edge) (w : World) (hx : SAt edgeC w A m l) (hm : m ≤ 500 ∨ 4096 < m) : Calls Try.prog 13 #[.int .i64 n, .slice A m c, .int .i64 s] w fun e w' => DistR l n s w e w' := by
  have HX := Lib.hid hx
  have HM := Lib.hid hx.1
  clear hx
  obtain ⟨r, hr⟩ : ∃ r, checkI n l = r := ⟨_, rfl⟩
  go_enter Try.func13, Try.ntmps13
  go_wp2_with fail
  refine (rcheck_any n A m c l w HX.out).mono ?_
  rintro e w0 ⟨rfl, rfl⟩
  rw [hr]
  by_cases hr0 : r = 0
  · subst hr0
    have H1 := Lib.hid (check_one (s := s) hr)
    have hc := checkI_good hr
    clear hr
    by_cases h1 : s < 0
    · have HR : Hid (checkN n l [s] = 9) := Lib.hid (by rw [H1.out, if_pos (.inl h1)])
      clear H1 hc
      go_wp2
      go_ret2
      exact ⟨fun _ => by rw [HR.out]; rfl, fun h => by have := HR.out; omega, Below.refl _ _⟩
    by_cases h2 : n ≤ s
    · have HR : Hid (checkN n l [s] = 9) := Lib.hid (by rw [H1.out, if_pos (.inr h2)])
      clear H1 hc
      go_wp2
      go_ret2
      exact ⟨fun _ => by rw [HR.out]; rfl, fun h => by have := HR.out; omega, Below.refl _ _⟩
    have HR : Hid (checkN n l [s] = 0) := Lib.hid (by rw [H1.out, if_neg (by omega)])
    clear H1
    obtain ⟨N, rfl⟩ : ∃ N : Nat, n = (N : Int) := ⟨n.toNat, by omega⟩
    obtain ⟨S, rfl⟩ : ∃ S : Nat, s = (S : Int) := ⟨s.toNat, by omega⟩
    have HGD := Lib.hid hc.2.2.2
    have hN : N ≤ 64 := by omega
    have hS : S < N := by omega
    have hm5 : m ≤ 500 := by have h1 := hc.2.2.1; have h2 := HM.out; omega
    clear hc hm
    go_wp2_with fail
    refine (turned_any A m c l w HX.out (by omega)).mono ?_
    rintro e w2 ⟨v2, rfl, ho2, hb2⟩
    obtain ⟨A2, c2, rfl, _⟩ := ownsRow_slice ho2
    have HT := Lib.hid (SAt.own ho2 (by decide))
    have HTL : Hid ((turnL l).length = m) := Lib.hid (by rw [turnL_len]; exact HM.out)
    rw [HTL.out] at HT
    rw [HTL.out]
    have HB2 := Lib.hid hb2
    clear ho2 hb2
    go_wp2_with fail
    refine (costs_any A2 N m c2 S (turnL l) w2 HT.out (turn_good HGD.out) hN hm5 hS).mono ?_
    rintro e w3 ⟨v3, rfl, ho3, hb3⟩
    rw [costs_len] at ho3
    obtain ⟨A3, c3, rfl, _⟩ := ownsRow_slice ho3
    obtain ⟨g, hg1, hg2⟩ : ∃ g, A3 = some ⟨g, 0, none⟩ ∧ w2.heap.size ≤ g := by
      have hO := ho3
      rcases hO.2 with ⟨_, h0⟩ | ⟨g, cap, cur, h1, _⟩
      · omega
      · injection h1 with h1
        subst h1
        exact ⟨g, rfl, (own_lt hO).2⟩
    subst hg1
    have HLC := Lib.hid (costs_len (turnL l) N S)
    obtain ⟨base, hbase⟩ : ∃ base, base = w2.heap.size := ⟨_, rfl⟩
    have HBS : Hid (w.heap.size ≤ base) := Lib.hid (by rw [hbase]; exact HB2.out.size)
    have HSM : Hid (∀ u : Nat, -1 ≤ gi (costsOf (turnL l) N S) u ∧ gi (costsOf (turnL l) N S) u ≤ 4500000000000000) := Lib.hid (fun u => by
      have h1 := rounds_small hS (turn_good HGD.out) (by rw [turnL_len, HM.out]; exact hm5) N u
      unfold costsOf
      omega)
    obtain ⟨cs, hcs⟩ : ∃ cs, cs = costsOf (turnL l) N S := ⟨_, rfl⟩
    have HCS := Lib.hid hcs
    rw [← hbase] at ho3 hg2
    rw [← hcs] at ho3 HLC HSM
    have HO3 := Lib.hid ho3
    have HB3 := Lib.hid (bthen HB2.out hb3 (Nat.le_refl _))
    clear ho3 hb3 HT HTL HB2 HGD HX hbase hcs
    go_wp2
    go_loopw [10] (fun i wb => ∃ (k : Nat) (ds : List Int), k ≤ N ∧ i = .int .i64 k ∧ Hid (DivTo cs ds N k) ∧ Hid (wb.ownsRow base 3 intC.sz (.slice (some ⟨g, 0, none⟩) N c3) N (intC.all ds)) ∧ Hid (Below w.heap.size w wb)) (fun i _ => N - (intOf i).toNat)
    case atStart => exact ⟨0, cs, by omega, rfl, Lib.hid (DivTo.start HLC.out), HO3, HB3⟩
    case round =>
      clear HO3 HB3
      obtain ⟨k, ds, hkn, rfl, HD, HO, HB⟩ := hrel
      have k0 : (0 : Int) ≤ (k : Int) := by omega
      by_cases hlt : k < N
      · have hlt' : (k : Int) < (N : Int) := by omega
        obtain ⟨q0, q1⟩ := int_own HO.out hlt
        have HKP := fun h => Lib.hid (HD.out.keep hlt h)
        have HPT := fun h => Lib.hid (HD.out.put hlt h)
        have HPUT := fun x => Lib.hid (int_put HO.out (by rw [HD.out.1]; exact hlt) x)
        have hsm : -1 ≤ gi ds k ∧ gi ds k ≤ 4500000000000000 := by
          have := HD.out.2 k hlt
          rw [if_neg (by omega)] at this
          rw [this]
          exact HSM.out k
        obtain ⟨ck, hck⟩ : ∃ ck, ck = gi ds k := ⟨_, rfl⟩
        rw [← hck] at q0 HKP HPT hsm
        clear hck
        have hg3 : w.heap.size ≤ g := Nat.le_trans HBS.out hg2
        by_cases hz : ck < 0
        · have HR2 := HKP hz
          clear HKP HPT HPUT
          have hz' : ¬ 0 ≤ ck := by omega
          go_wp2
          go_roundw
          case rel => exact ⟨k + 1, ds, by omega, by go_num, HR2, HO, HB⟩
          case measure => simp [intOf]; omega
        · have HR2 := HPT hz
          have HPU := HPUT (ck / 128)
          clear HKP HPT HPUT
          have hz' : 0 ≤ ck := by omega
          go_wp2
          go_roundw
          case rel => exact ⟨k + 1, _, by omega, by go_num, HR2, HPU, Lib.hid (HB.out.setCell (p := ⟨g, k, none⟩) hg3 _)⟩
          case measure => simp [intOf]; omega
      · obtain rfl : k = N := by omega
        have hd0 : ¬ ((k : Int) < (k : Int)) := by omega
        have HE : Hid (ds = distL l k S) := Lib.hid (DivTo.end_ (by rw [← HCS.out]; exact HD.out))
        go_wp2
        go_ret2
        refine ⟨fun h => absurd HR.out h, fun _ => ⟨some ⟨g, 0, none⟩, c3, by rw [Int.toNat_natCast]; rfl, ?_⟩, HB.out⟩
        rw [Int.toNat_natCast, Int.toNat_natCast, ← HE.out]
        have := HO.out
        rw [int_all] at this
        exact (IntsAt.own this).1
  · have HR := Lib.hid (check_first (ns := [s]) hr hr0)
    clear hr
    go_wp2
    go_ret2
    exact ⟨fun _ => by rw [HR.out]; rfl, fun h => absurd (HR.out.symm.trans h) hr0, Below.refl _ _⟩
end Go.Proofs.Ytabhinmodnmllaa
