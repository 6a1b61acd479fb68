/-
  A delayed trip recovers: the walk.
-/
import Derived.Test.YtackadjhgklieaaDlR
namespace Go.Proofs.Ytackadjhgklieaa
open Go.RowKit

set_option maxRecDepth 100000 in
set_option maxHeartbeats 4000000 in
theorem recovers_walk (A : Option Addr) (n c : Nat) (xs : List Call) (at_ s : Int) (w : World) (hx : SAt callC w A n xs) (_g : AnyC xs) (hc : n ≤ c) (_h1 : I64 at_) (_h2 : I64 s) :
    Calls Try.prog 7 #[.slice A n c, .int .i64 at_, .int .i64 s] w fun e w' => e = .returned (.bool true) ∧ Below w.heap.size w w' := by
  have r := Nat.le_refl w.heap.size
  have R := Lib.hid hx
  have HL := Lib.hid hx.1
  have HB := Lib.hid (Below.refl w.heap.size w)
  clear hx
  by_cases h40 : (40 : Int) < (n : Int)
  · go_enter Try.func7, Try.ntmps7
    go_wp2_with fail
    refine (example_any _).mono ?_
    rintro e w1 ⟨rfl, hb⟩
    have HB := Lib.hid (bthen HB.out hb r)
    clear hb
    go_wp2
    go_ret
    exact ⟨rfl, HB.out⟩
  have hn : n ≤ 1000 := by omega
  have hp := fun A c w h => prop_any A n c xs at_ s w h hn
  by_cases hz : propE xs at_ s = 0
  · have hs := fun A c w h hc => rec_any A n c xs at_ s w h hn hc
    obtain ⟨a, rfl, ha, ll, hm, hgood⟩ := recovers HL.out hz
    obtain ⟨L, hL⟩ : ∃ L, L = propL xs a s := ⟨_, rfl⟩
    obtain ⟨k, hk⟩ : ∃ k, k = recI xs a s := ⟨_, rfl⟩
    obtain ⟨b, hb⟩ : ∃ b, b = recB xs a s := ⟨_, rfl⟩
    rw [← hL] at ll
    rw [← hk, ← hb] at hm
    rw [← hL, ← hk, ← hb] at hgood
    simp only [PropRet, hz, ← hL, ll] at hp
    simp only [← hk, ← hb] at hs
    have HG := Lib.hid hgood
    have HM := Lib.hid hm
    have a0 : (0 : Int) ≤ (a : Int) := by omega
    have an : (a : Int) < (n : Int) := by omega
    clear hgood hm ll hL hk hb hz
    go_enter Try.func7, Try.ntmps7
    go_wp2_with fail
    refine (hp _ _ _ R.out).mono ?_
    rintro e w1 ⟨va, rfl, hr, hb⟩
    obtain ⟨Aa, ca, rfl, hca⟩ := ownsRow_slice hr
    have R := Lib.hid (R.out.stays hb)
    have HB := Lib.hid (bthen HB.out hb r)
    have Ra := Lib.hid (show SAt callC _ _ _ _ from SAt.own hr (by decide))
    clear hr hb
    go_wp2_with fail
    refine (hs _ _ _ R.out hc).mono ?_
    rintro e w2 ⟨rfl, hb⟩
    have R := Lib.hid (R.out.stays hb)
    have Ra := Lib.hid (Ra.out.stays hb)
    have HB := Lib.hid (bthen HB.out hb r)
    clear hb hp hs
    obtain ⟨b1, o1, hA, _⟩ := R.out.at_ ha
    subst hA
    obtain ⟨b2, o2, hA, _⟩ := Ra.out.at_ ha
    subst hA
    go_wp2
    go_loopw [11] (fun i wr => ∃ j : Nat, j ≤ n ∧ i = .int .i64 j ∧ Hid (SAt callC wr (some ⟨b1, o1, none⟩) n xs) ∧ Hid (SAt callC wr (some ⟨b2, o2, none⟩) n L) ∧ Hid (Below w.heap.size w wr)) (fun i _ => n - (intOf i).toNat)
    case atStart => exact ⟨0, by omega, rfl, R, Ra, HB⟩
    case round =>
      clear R Ra HB
      obtain ⟨j, hj, rfl, R, Ra, HB⟩ := hrel
      by_cases hlt : j < n
      · have hlt' : (j : Int) < (n : Int) := by omega
        have hj0 : (0 : Int) ≤ (j : Int) := by omega
        obtain ⟨c0, c1, c2, c3, c4⟩ := call_cells R.out hlt
        obtain ⟨d0, d1, d2, d3, d4⟩ := call_cells Ra.out hlt
        have l1 : b1 < wr.heap.size := cell?_block_lt c0
        have l2 : b2 < wr.heap.size := cell?_block_lt d0
        have n1 : ¬ b1 = wr.heap.size := by omega
        have n2 : ¬ b2 = wr.heap.size := by omega
        have n3 : ¬ wr.heap.size = b1 := by omega
        have n4 : ¬ wr.heap.size = b2 := by omega
        have n5 : ¬ b1 = wr.heap.size + 1 := by omega
        have n6 : ¬ b2 = wr.heap.size + 1 := by omega
        go_upto_region 12 with fail
        go_cut [12, 13] (fun s12 s13 wx => ∃ B1 B2 : Nat, s12 = .pointer (some ⟨B1, 0, none⟩) ∧ s13 = .pointer (some ⟨B2, 0, none⟩) ∧ Hid (Box5 wx B1 (gc xs j)) ∧ Hid (Box5 wx B2 (gc L j)) ∧ Hid (Below wr.heap.size wr wx))
        case first =>
          go_region
          all_goals go_wp2_with fail
          all_goals go_meet
          all_goals refine ⟨_, _, rfl, rfl, Lib.hid ?_, Lib.hid ?_, Lib.hid ?_⟩
          all_goals first
            | (unfold Box5; refine ⟨?_, ?_, ?_, ?_, ?_⟩ <;> simp [go_sem])
            | exact balloc (balloc (Below.refl _ _).drew _ (Nat.le_refl _)) _ (Nat.le_refl _)
            | skip
        case rest =>
          obtain ⟨B1, B2, rfl, rfl, X1, X2, BX⟩ := hcut
          clear c0 c1 c2 c3 c4 d0 d1 d2 d3 d4 l1 l2 n1 n2 n3 n4 n5 n6
          have R2 := Lib.hid (R.out.stays BX.out)
          have Ra2 := Lib.hid (Ra.out.stays BX.out)
          have HB2 := Lib.hid (bthen HB.out BX.out r)
          clear R Ra HB BX
          have HJ := Lib.hid (HG.out j hlt)
          obtain ⟨wo, rfl⟩ : ∃ wo : World, wo = wc := ⟨_, rfl⟩
          go_upto_region 13 with fail
          go_cut [107] (fun sx wx => sx = .bool false ∧ ∃ m : Nat, wx = wo.drewN m)
          case first =>
            obtain ⟨x0, x1, x2, x3, x4⟩ := X1.out
            obtain ⟨y0, y1, y2, y3, y4⟩ := X2.out
            have f1 : ¬ (gc L j).dep < (gc L j).arr := by have := HJ.out.1; omega
            have f3 : ¬ (gc L j).dep < (gc xs j).dep := by have := HJ.out.2.2.1; omega
            by_cases j0 : 0 < j
            · obtain ⟨q, hq⟩ : ∃ q, q = j - 1 := ⟨_, rfl⟩
              have g2 := HJ.out.2.1 j0
              rw [← hq] at g2
              have j0' : (0 : Int) < (j : Int) := by omega
              have jq : IntKind.i64.wrap ((j : Int) - 1) = (q : Int) := by rw [show (j : Int) - 1 = (q : Int) by omega]; exact wrap64 (by omega) (by omega)
              have q0 : (0 : Int) ≤ (q : Int) := by omega
              have qn : (q : Int) < (n : Int) := by omega
              obtain ⟨_, _, z2, _, _⟩ := call_cells Ra2.out (show q < n by omega)
              have f2 : ¬ (gc L j).arr < (gc L q).dep := by omega
              clear g2 hq
              by_cases ja : j = a
              · subst ja
                go_quiet (fail)
                go_wp2
                go_meet
                exact ⟨rfl, _, rfl⟩
              · have ja' : ¬ (j : Int) = (a : Int) := by omega
                have f4 : ¬ (gc L j).arr < (gc xs j).arr := by have := HJ.out.2.2.2.1 ja; omega
                go_quiet (fail)
                go_wp2
                go_meet
                exact ⟨rfl, _, rfl⟩
            · have j0' : ¬ (0 : Int) < (j : Int) := by omega
              by_cases ja : j = a
              · subst ja
                go_quiet (fail)
                go_wp2
                go_meet
                exact ⟨rfl, _, rfl⟩
              · have hne : ((j : Int) != (a : Int)) = true := bne_iff_ne.2 (by omega)
                have f4 : ¬ (gc L j).arr < (gc xs j).arr := by have := HJ.out.2.2.2.1 ja; omega
                clear ja
                go_quiet (fail)
                go_wp2
                go_meet
                exact ⟨rfl, _, rfl⟩
          case rest =>
            obtain ⟨rfl, m, rfl⟩ := hcut
            go_upto_region 15 with fail
            go_cut [123] (fun sx wx => sx = .bool false ∧ wx = wo.drewN m)
            case first =>
              by_cases hs : j < a ∨ (b = true ∧ k < (j : Int))
              · have hE := HJ.out.2.2.2.2.1 hs
                have X3 : Hid (Box5 wo B2 (gc xs j)) := Lib.hid (by rw [← hE]; exact X2.out)
                obtain ⟨x0, x1, x2, x3, x4⟩ := X1.out
                obtain ⟨y0, y1, y2, y3, y4⟩ := X3.out
                have hne := neq_call (gc xs j) (gc xs j)
                rw [show eqC (gc xs j) (gc xs j) = true from eqC_iff.2 rfl] at hne
                clear hE
                by_cases ja : j < a
                · have ja' : (j : Int) < (a : Int) := by omega
                  clear hs
                  go_wp2_with fail
                  go_meet
                  exact ⟨rfl, rfl⟩
                · have ja' : ¬ (j : Int) < (a : Int) := by omega
                  obtain ⟨hb1, hb2⟩ : b = true ∧ k < (j : Int) := by
                    rcases hs with h | h
                    · exact absurd h ja
                    · exact h
                  subst hb1
                  clear hs
                  go_wp2_with fail
                  go_meet
                  exact ⟨rfl, rfl⟩
              · have ja : ¬ j < a := fun h => hs (Or.inl h)
                have ja' : ¬ (j : Int) < (a : Int) := by omega
                cases b
                · clear hs
                  go_wp2_with fail
                  go_meet
                  exact ⟨rfl, rfl⟩
                · have hk : ¬ k < (j : Int) := fun h => hs (Or.inr ⟨rfl, h⟩)
                  clear hs
                  go_wp2_with fail
                  go_meet
                  exact ⟨rfl, rfl⟩
            case rest =>
              obtain ⟨rfl, rfl⟩ := hcut
              go_upto_region 17 with fail
              have hj1 := HJ.out.2.2.2.2.2.2
              have aw : IntKind.i64.wrap ((a : Int) + 1) = (a : Int) + 1 := wrap64 (by omega) (by omega)
              by_cases h2 : a + 1 < j
              · have h2' : (a : Int) + 1 < (j : Int) := by omega
                obtain ⟨q, hq⟩ : ∃ q, q = j - 1 := ⟨_, rfl⟩
                have g6 := HJ.out.2.2.2.2.2.1 h2
                rw [← hq] at g6
                have hq1 := (HG.out q (by omega)).2.2.2.2.2.2
                have jq : IntKind.i64.wrap ((j : Int) - 1) = (q : Int) := by rw [show (j : Int) - 1 = (q : Int) by omega]; exact wrap64 (by omega) (by omega)
                have q0 : (0 : Int) ≤ (q : Int) := by omega
                have qn : (q : Int) < (n : Int) := by omega
                obtain ⟨_, z1, _, _, _⟩ := call_cells Ra2.out (show q < n by omega)
                obtain ⟨_, v1, _, _, _⟩ := call_cells R2.out (show q < n by omega)
                obtain ⟨_, x1, _, _, _⟩ := X1.out
                obtain ⟨_, y1, _, _, _⟩ := X2.out
                have w1 : IntKind.i64.wrap ((gc L j).arr - (gc xs j).arr) = (gc L j).arr - (gc xs j).arr := wrap64 (by omega) (by omega)
                have w2 : IntKind.i64.wrap ((gc L q).arr - (gc xs q).arr) = (gc L q).arr - (gc xs q).arr := wrap64 (by omega) (by omega)
                have f6 : ¬ (gc L q).arr - (gc xs q).arr < (gc L j).arr - (gc xs j).arr := by omega
                clear g6 hq hj1 hq1
                go_quiet (fail)
                go_wp2
                go_roundw
                case rel => exact ⟨j + 1, by omega, by go_num, Lib.hid (R2.out.drewN _), Lib.hid (Ra2.out.drewN _), Lib.hid (bdrewN HB2.out _)⟩
                case measure => simp [intOf]; omega
              · have h2' : ¬ (a : Int) + 1 < (j : Int) := by omega
                clear hj1
                go_quiet (fail)
                go_wp2
                go_roundw
                case rel => exact ⟨j + 1, by omega, by go_num, Lib.hid (R2.out.drewN _), Lib.hid (Ra2.out.drewN _), Lib.hid (bdrewN HB2.out _)⟩
                case measure => simp [intOf]; omega
      · obtain rfl : j = n := by omega
        have hd : ¬ ((j : Int) < (j : Int)) := by omega
        cases b
        · go_wp2_with fail
          refine (example_any _).mono ?_
          rintro e w6 ⟨rfl, hb⟩
          have HB := Lib.hid (bthen HB.out hb r)
          clear hb
          go_wp2
          go_ret
          exact ⟨rfl, HB.out⟩
        · obtain ⟨m, rfl, hm1, hm2⟩ := HM.out rfl
          have hm3 : (a : Int) ≤ (m : Int) := by omega
          have hm4 : (m : Int) < (j : Int) := by omega
          go_wp2_with fail
          refine (example_any _).mono ?_
          rintro e w6 ⟨rfl, hb⟩
          have HB := Lib.hid (bthen HB.out hb r)
          clear hb
          go_wp2
          go_ret
          exact ⟨rfl, HB.out⟩
  · obtain ⟨e1, he1⟩ : ∃ e, e = propE xs at_ s := ⟨_, rfl⟩
    have hl0 : (propL xs at_ s).length = 0 := by unfold propL; rw [if_neg hz]; rfl
    simp only [PropRet, ← he1, hl0] at hp
    rw [← he1] at hz
    clear he1
    go_enter Try.func7, Try.ntmps7
    go_wp2_with fail
    refine (hp _ _ _ R.out).mono ?_
    rintro e w1 ⟨va, rfl, hr, hb⟩
    obtain ⟨Aa, ca, rfl, hca⟩ := ownsRow_slice hr
    have HB := Lib.hid (bthen HB.out hb r)
    clear hr hb hp R
    go_wp2_with fail
    refine (example_any _).mono ?_
    rintro e w6 ⟨rfl, hb⟩
    have HB := Lib.hid (bthen HB.out hb r)
    clear hb
    go_wp2
    go_ret
    exact ⟨rfl, HB.out⟩
end Go.Proofs.Ytackadjhgklieaa
