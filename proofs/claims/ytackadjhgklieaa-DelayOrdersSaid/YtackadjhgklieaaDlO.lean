/-
  Of two delays at the same call the greater one never makes a time earlier: the walk.
-/
import Derived.Test.YtackadjhgklieaaDlW
namespace Go.Proofs.Ytackadjhgklieaa
open Go.RowKit

theorem nA_mono {xs : List Call} {a : Nat} {s t : Int} (h : s ≤ t) : ∀ j, nA xs a s j ≤ nA xs a t j
  | 0 => by
    unfold nA
    split <;> split <;> omega
  | j + 1 => by
    have := nA_mono (xs := xs) (a := a) h j
    rw [nA_succ, nA_succ]
    unfold nD
    split <;> split <;> omega
theorem nD_mono {xs : List Call} {a : Nat} {s t : Int} (h : s ≤ t) (j : Nat) : nD xs a s j ≤ nD xs a t j := by
  have := nA_mono (xs := xs) (a := a) h j
  unfold nD
  split <;> split <;> omega
theorem late_mono {xs : List Call} {a : Nat} {s t : Int} (h : s ≤ t) (i : Nat) : (lateC xs a s i).arr ≤ (lateC xs a t i).arr ∧ (lateC xs a s i).dep ≤ (lateC xs a t i).dep := by
  unfold lateC
  split
  · exact ⟨Int.le_refl _, Int.le_refl _⟩
  · exact ⟨nA_mono h _, nD_mono h _⟩
theorem prop_mono {xs : List Call} {at_ s t : Int} (h1 : propE xs at_ s = 0) (h2 : propE xs at_ t = 0) (h : s ≤ t) : (propL xs at_ s).length = xs.length ∧ (propL xs at_ t).length = xs.length ∧
    ∀ i, i < xs.length → (gc (propL xs at_ s) i).arr ≤ (gc (propL xs at_ t) i).arr ∧ (gc (propL xs at_ s) i).dep ≤ (gc (propL xs at_ t) i).dep := by
  obtain ⟨a, rfl, _, _, _, _, _, e1⟩ := prop_zero h1
  obtain ⟨b, hb, _, _, _, _, _, e2⟩ := prop_zero h2
  obtain rfl : a = b := by omega
  rw [e1, e2, cur_len, cur_len]
  refine ⟨rfl, rfl, fun i hi => ?_⟩
  rw [cur_at hi, cur_at hi, if_pos hi, if_pos hi]
  exact late_mono h i
theorem two_new (w : World) (p q : Int) (t : TypeId) : Two (w.alloc (.cells #[.int .i64 p, .int .i64 q] t)) ⟨w.heap.size, 0, none⟩ ⟨w.heap.size, 1, none⟩ p q := by
  refine ⟨?_, ?_⟩ <;> (rw [World.cell?_alloc_at _ _ _ _ rfl]; rfl)

set_option maxHeartbeats 1000000 in
theorem orders_walk (A : Option Addr) (n c : Nat) (xs : List Call) (at_ p q : Int) (w : World) (hx : SAt callC w A n xs) (_g : AnyC xs) (_h1 : I64 at_) :
    Calls Try.prog 9 #[.slice A n c, .int .i64 at_, .agg #[.int .i64 p, .int .i64 q]] w fun e w' => e = .returned (.bool true) ∧ Below w.heap.size w w' := by
  have r := Nat.le_refl w.heap.size
  have R := Lib.hid hx
  have HL := Lib.hid hx.1
  clear hx
  have HN := fun o => Lib.hid (balloc (Below.refl w.heap.size w) o r)
  by_cases h40 : (40 : Int) < (n : Int)
  · go_enter Try.func9, Try.ntmps9
    go_wp2_with fail
    refine (example_any _).mono ?_
    rintro e w1 ⟨rfl, hb⟩
    have HB := Lib.hid (bthen (HN _).out hb r)
    clear hb
    go_wp2
    go_ret
    exact ⟨rfl, HB.out⟩
  by_cases hpq : q < p
  · go_enter Try.func9, Try.ntmps9
    go_wp2_with fail
    refine (example_any _).mono ?_
    rintro e w1 ⟨rfl, hb⟩
    have HB := Lib.hid (bthen (HN _).out hb r)
    clear hb
    go_wp2
    go_ret
    exact ⟨rfl, HB.out⟩
  have hn : n ≤ 1000 := by omega
  by_cases hz : propE xs at_ p = 0 ∧ propE xs at_ q = 0
  · obtain ⟨l1, l2, ho⟩ := prop_mono hz.1 hz.2 (by omega)
    rw [HL.out] at l1 l2 ho
    have hp1 := fun A c w h => prop_any A n c xs at_ p w h hn
    have hp2 := fun A c w h => prop_any A n c xs at_ q w h hn
    obtain ⟨L1, hL1⟩ : ∃ L, L = propL xs at_ p := ⟨_, rfl⟩
    obtain ⟨L2, hL2⟩ : ∃ L, L = propL xs at_ q := ⟨_, rfl⟩
    rw [← hL1] at l1
    rw [← hL2] at l2
    simp only [PropRet, hz.1, ← hL1, l1] at hp1
    simp only [PropRet, hz.2, ← hL2, l2] at hp2
    rw [← hL1, ← hL2] at ho
    have HO := Lib.hid ho
    clear ho l1 l2 hL1 hL2 hz
    go_enter Try.func9, Try.ntmps9
    go_wp2_with fail
    refine (hp1 _ _ _ (R.out.stays (HN _).out)).mono ?_
    rintro e w1 ⟨va, rfl, hr, hb⟩
    obtain ⟨Aa, ca, rfl, hca⟩ := ownsRow_slice hr
    have T := Lib.hid ((two_new w p q _).stays hb)
    have R := Lib.hid ((R.out.stays (HN _).out).stays hb)
    have HB := Lib.hid (bthen (HN _).out hb r)
    have Ra := Lib.hid (show SAt callC _ _ _ _ from SAt.own hr (by decide))
    clear hr hb HN
    have c1 := T.out.2
    go_wp2_with fail
    refine (hp2 _ _ _ R.out).mono ?_
    rintro e w2 ⟨vb, rfl, hr, hb⟩
    obtain ⟨Ab, cb, rfl, hcb⟩ := ownsRow_slice hr
    have HB := Lib.hid (bthen HB.out hb r)
    have Ra := Lib.hid (Ra.out.stays hb)
    have Rb := Lib.hid (show SAt callC _ _ _ _ from SAt.own hr (by decide))
    clear hr hb c1 T R hp1 hp2 HL
    go_wp2
    go_loopw [11] (fun k wr => ∃ j q : Nat, j ≤ n ∧ k = .int .i64 j ∧ wr = w2.drewN q) (fun k _ => n - (intOf k).toNat)
    case atStart => exact ⟨0, 0, by omega, rfl, rfl⟩
    case round =>
      obtain ⟨j, q, hj, rfl, rfl⟩ := hrel
      by_cases hlt : j < n
      · obtain ⟨b, o, hA, _⟩ := Ra.out.at_ hlt
        subst hA
        obtain ⟨b', o', hA, _⟩ := Rb.out.at_ hlt
        subst hA
        obtain ⟨_, c1, c2, _, _⟩ := call_cells Ra.out hlt
        obtain ⟨_, d1, d2, _, _⟩ := call_cells Rb.out hlt
        have hlt' : (j : Int) < (n : Int) := by omega
        have hj0 : (0 : Int) ≤ (j : Int) := by omega
        obtain ⟨m1, m2⟩ := HO.out j hlt
        have m1' : ¬ (gc L2 j).arr < (gc L1 j).arr := by omega
        have m2' : ¬ (gc L2 j).dep < (gc L1 j).dep := by omega
        go_wp2
        go_quiet (fail)
        go_wp2
        go_roundw
        case rel => exact ⟨j + 1, _, by omega, by go_num, rfl⟩
        case measure => simp [intOf]; omega
      · obtain rfl : j = n := by omega
        have hd : ¬ ((j : Int) < (j : Int)) := by omega
        have HB := Lib.hid (bdrewN HB.out q)
        go_wp2_with fail
        refine (example_any _).mono ?_
        rintro e w6 ⟨rfl, hb⟩
        have HB := Lib.hid (bthen HB.out hb r)
        clear hb
        go_wp2
        go_ret
        exact ⟨rfl, HB.out⟩
  · have hp1 := fun A c w h => prop_any A n c xs at_ p w h hn
    have hp2 := fun A c w h => prop_any A n c xs at_ q w h hn
    obtain ⟨e1, he1⟩ : ∃ e, e = propE xs at_ p := ⟨_, rfl⟩
    obtain ⟨e2, he2⟩ : ∃ e, e = propE xs at_ q := ⟨_, rfl⟩
    simp only [PropRet, ← he1] at hp1
    simp only [PropRet, ← he2] at hp2
    rw [← he1, ← he2] at hz
    clear he1 he2
    have key : e1 = 0 ∧ ¬ e2 = 0 ∨ ¬ e1 = 0 := by
      by_cases h : e1 = 0
      · exact Or.inl ⟨h, fun h2 => hz ⟨h, h2⟩⟩
      · exact Or.inr h
    clear hz
    rcases key with ⟨z1, z2⟩ | z1
    · subst z1
      go_enter Try.func9, Try.ntmps9
      go_wp2_with fail
      refine (hp1 _ _ _ (R.out.stays (HN _).out)).mono ?_
      rintro e w1 ⟨va, rfl, hr, hb⟩
      have T := Lib.hid ((two_new w p q _).stays hb)
      have R := Lib.hid ((R.out.stays (HN _).out).stays hb)
      have HB := Lib.hid (bthen (HN _).out hb r)
      clear hr hb HN
      have c1 := T.out.2
      go_wp2_with fail
      refine (hp2 _ _ _ R.out).mono ?_
      rintro e w2 ⟨vb, rfl, hr, hb⟩
      have HB := Lib.hid (bthen HB.out hb r)
      clear hr hb c1 T R hp1 hp2 HL
      go_wp2_with fail
      refine (example_any _).mono ?_
      rintro e w6 ⟨rfl, hb⟩
      have HB := Lib.hid (bthen HB.out hb r)
      clear hb
      go_wp2
      go_ret
      exact ⟨rfl, HB.out⟩
    · go_enter Try.func9, Try.ntmps9
      go_wp2_with fail
      refine (hp1 _ _ _ (R.out.stays (HN _).out)).mono ?_
      rintro e w1 ⟨va, rfl, hr, hb⟩
      have T := Lib.hid ((two_new w p q _).stays hb)
      have R := Lib.hid ((R.out.stays (HN _).out).stays hb)
      have HB := Lib.hid (bthen (HN _).out hb r)
      clear hr hb HN
      have c1 := T.out.2
      go_wp2_with fail
      refine (hp2 _ _ _ R.out).mono ?_
      rintro e w2 ⟨vb, rfl, hr, hb⟩
      have HB := Lib.hid (bthen HB.out hb r)
      clear hr hb c1 T R hp1 hp2 HL
      go_wp2_with fail
      refine (example_any _).mono ?_
      rintro e w6 ⟨rfl, hb⟩
      have HB := Lib.hid (bthen HB.out hb r)
      clear hb
      go_wp2
      go_ret
      exact ⟨rfl, HB.out⟩
end Go.Proofs.Ytackadjhgklieaa
