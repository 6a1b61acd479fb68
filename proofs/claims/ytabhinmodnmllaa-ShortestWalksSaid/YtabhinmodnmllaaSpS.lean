/-
  Distances. By hand.
-/
import Derived.Test.YtabhinmodnmllaaSpR
namespace Go.Proofs.Ytabhinmodnmllaa
open Go.RowKit

/-- what Distances leaves -/
def Dist (l : List Edge) (n s : Int) (w : World) (e : Ending) (w' : World) : Prop :=
  (checkN n l [s] ≠ 0 → e = .returned (.tuple #[.slice none 0 0, .int .i64 (checkN n l [s])])) ∧
  (checkN n l [s] = 0 → ∃ out A c, e = .returned (.tuple #[.slice A n.toNat c, .int .i64 0]) ∧ IntsAt w' A n.toNat (lens out n.toNat) ∧ LabOk (fromE l) s n.toNat out) ∧ Below w.heap.size w w'

set_option maxRecDepth 100000 in
set_option maxHeartbeats 2000000 in
theorem dist_any (A : Option Addr) (n s : Int) (m c : Nat) (l : List Edge) (w : World) (hx : SAt edgeC w A m l) (hm : m ≤ 500 ∨ 4096 < m) : Calls Try.prog 11 #[.int .i64 n, .slice A m c, .int .i64 s] w fun e w' => Dist l n s w e w' := by
  have HX := Lib.hid hx
  clear hx
  go_enter Try.func11, Try.ntmps11
  go_wp2_with fail
  have hb1 := al1 w (.cells #[.int .i64 s] 3)
  refine (check_any n A m c l _ 1 1 [s] _ (HX.out.stays hb1) (IntsAt.lit w _ [s]) (by omega)).mono ?_
  rintro e w1 ⟨rfl, hb2⟩
  have HX1 := Lib.hid ((HX.out.stays hb1).stays hb2)
  have HB1 := Lib.hid (bthen hb1 hb2 (Nat.le_refl _))
  obtain ⟨r, hr⟩ : ∃ r, checkN n l [s] = r := ⟨_, rfl⟩
  rw [hr]
  have HR := Lib.hid hr
  clear hb1 hb2 hr
  by_cases hr0 : r = 0
  · subst hr0
    have hg := checkN_good HR.out
    have hc := checkI_good hg.1
    obtain ⟨N, rfl⟩ : ∃ N : Nat, n = (N : Int) := ⟨n.toNat, by omega⟩
    have HGD := Lib.hid hc.2.2.2
    have hs := hg.2 s List.mem_cons_self
    have hN : N ≤ 64 := by omega
    replace hm : m ≤ 500 := by have h1 := hc.2.2.1; have h2 := HX.out.1; omega
    have HLL := Lib.hid HX.out.1
    clear hg hc
    go_wp2_with fail
    refine (nbr_false A m c l _ HX1.out (by omega) (fun k hk => by have := (HGD.out _ (ge_mem (by rw [HLL.out]; exact hk))).1; unfold I64; omega)).mono ?_
    rintro e w2 ⟨rfl, ⟨G, hG⟩, hb3⟩
    have HB2 := Lib.hid (bthen HB1.out hb3 (Nat.le_refl _))
    have HG := Lib.hid hG
    clear hb3 hG
    go_wp2_with fail
    refine (labels_any N _ s w2 _ _ G (fromE l) HG.out (good_graph HGD.out) hs hN (by have := rem_le l N; rw [HLL.out] at this; omega)).mono ?_
    rintro e w3 ⟨v, out, rfl, ho, hok, hb4⟩
    obtain ⟨Ao, co, rfl, _⟩ := ownsRow_slice ho
    have HO := Lib.hid (SAt.own ho (by decide))
    have HB3 := Lib.hid (bthen HB2.out hb4 (Nat.le_refl _))
    have HOKL := Lib.hid hok
    clear ho hok hb4
    go_wp2_with fail
    refine (lengths_any Ao N co out w3 HO.out (by omega)).mono ?_
    rintro e w4 ⟨Ai, ci, rfl, hi1, hi2, hi3, hb5, hi4⟩
    have HI := Lib.hid hi1
    have HB4 := Lib.hid (bthen HB3.out hb5 (Nat.le_refl _))
    have HLE := Lib.hid (lens_len out N)
    clear hi1 hi2 hi3 hb5 hi4
    go_wp2
    go_ret2
    exact ⟨fun h => absurd HR.out h, fun _ => ⟨out, Ai, ci, by rw [HLE.out, Int.toNat_natCast]; rfl, by have := HI.out; rw [HLE.out] at this; rw [Int.toNat_natCast]; exact this, by rw [Int.toNat_natCast]; exact HOKL.out⟩, HB4.out⟩
  · go_wp2
    go_ret2
    exact ⟨fun _ => by rw [HR.out]; rfl, fun h => absurd (HR.out.symm.trans h) hr0, HB1.out⟩
end Go.Proofs.Ytabhinmodnmllaa
