/-
  sink, Len, Peek. Printed by gen/hp3.py.
-/
import Derived.Test.YtabhinmodnmllaaSpB
namespace Go.Proofs.Ytabhinmodnmllaa
open Go.RowKit

/-- the lesser child of i -/
def kidN (lt : Lab → Lab → Bool) (ns : List Node) (i : Nat) : Nat := if 2 * i + 2 < ns.length ∧ bef lt (gn ns (2 * i + 2)) (gn ns (2 * i + 1)) = true then 2 * i + 2 else 2 * i + 1
/-- node i sinks -/
def sinkN (lt : Lab → Lab → Bool) : Nat → List Node → Nat → List Node
  | 0, ns, _ => ns
  | f + 1, ns, i => if ns.length ≤ 2 * i + 1 then ns else if bef lt (gn ns (kidN lt ns i)) (gn ns i) = true then sinkN lt f (swpN ns i (kidN lt ns i)) (kidN lt ns i) else ns
theorem sinkN_end {lt : Lab → Lab → Bool} {f i n : Nat} {ns : List Node} (hn : ns.length = n) (h : n ≤ 2 * i + 1) : sinkN lt f ns i = ns := by
  cases f with
  | zero => rfl
  | succ f => rw [sinkN, if_pos (by omega)]
theorem sinkN_stop {lt : Lab → Lab → Bool} {f i k : Nat} {ns : List Node} (hk : kidN lt ns i = k) (h : bef lt (gn ns k) (gn ns i) = false) : sinkN lt f ns i = ns := by
  subst hk
  cases f with
  | zero => rfl
  | succ f =>
    rw [sinkN]
    split
    · rfl
    · rw [h]; rfl
theorem sinkN_go {lt : Lab → Lab → Bool} {f i k n : Nat} {ns : List Node} (hn : ns.length = n) (h : 2 * i + 1 < n) (hk : kidN lt ns i = k) (hb : bef lt (gn ns k) (gn ns i) = true) : sinkN lt (f + 1) ns i = sinkN lt f (swpN ns i k) k := by
  subst hk
  rw [sinkN, if_neg (by omega), if_pos hb]
theorem kid_one {lt : Lab → Lab → Bool} {i n : Nat} {ns : List Node} (hn : ns.length = n) (h : ¬ 2 * i + 2 < n) : kidN lt ns i = 2 * i + 1 := if_neg (fun e => h (by rw [← hn]; exact e.1))
theorem kid_left {lt : Lab → Lab → Bool} {i : Nat} {ns : List Node} (h : bef lt (gn ns (2 * i + 2)) (gn ns (2 * i + 1)) = false) : kidN lt ns i = 2 * i + 1 := if_neg (fun e => by rw [h] at e; exact Bool.noConfusion e.2)
theorem kid_right {lt : Lab → Lab → Bool} {i n : Nat} {ns : List Node} (hn : ns.length = n) (h : 2 * i + 2 < n) (hb : bef lt (gn ns (2 * i + 2)) (gn ns (2 * i + 1)) = true) : kidN lt ns i = 2 * i + 2 := if_pos ⟨by omega, hb⟩
theorem before_at (K : FuncId) (lt : Lab → Lab → Bool) (hK : LessFn K lt) (base hb : Nat) (v : Value) (ns : List Node) (pu : Int) (w : World) (h : HeapAt w base hb K v ns pu) (n i k : Nat) (a b : Int) (hn : ns.length = n) (ha : a = (i : Int)) (hb' : b = (k : Int)) (hi : i < n) (hk : k < n) (r : Bool) (hr : bef lt (gn ns i) (gn ns k) = r) :
    Calls Try.prog 35 #[.pointer (some ⟨hb, 0, none⟩), .int .i64 a, .int .i64 b] w fun e w' => e = .returned (.bool r) ∧ Below w.heap.size w w' := by
  subst ha hb' hr
  exact before_any K lt hK base hb v ns pu w h n i k hn.symm hi hk
theorem swap_at (K : FuncId) (base hb : Nat) (v : Value) (ns : List Node) (pu : Int) (w : World) (h : HeapAt w base hb K v ns pu) (n i k : Nat) (a b : Int) (hn : ns.length = n) (ha : a = (i : Int)) (hb' : b = (k : Int)) (hi : i < n) (hk : k < n) :
    Calls Try.prog 36 #[.pointer (some ⟨hb, 0, none⟩), .int .i64 a, .int .i64 b] w fun e w' => e = .returned (.tuple #[]) ∧ HeapAt w' base hb K v (swpN ns i k) pu ∧ Asd hb v.ownBlock w w' := by
  subst ha hb'
  exact swap_any K base hb v ns pu w h n i k hn.symm hi hk
theorem HeapAt.slice {w : World} {base hb : Nat} {K : FuncId} {v : Value} {ns : List Node} {pu : Int} (h : HeapAt w base hb K v ns pu) : ∃ A c, v = .slice A ns.length c ∧ ns.length ≤ c := ownsRow_slice h.own

set_option maxRecDepth 100000 in
set_option maxHeartbeats 4000000 in
theorem sink_any (K : FuncId) (lt : Lab → Lab → Bool) (hK : LessFn K lt) (base hb : Nat) (v : Value) (ns : List Node) (pu : Int) (w : World) (h : HeapAt w base hb K v ns pu) (n : Nat) (hn : ns.length = n) (h1000 : n ≤ 1000) :
    Calls Try.prog 38 #[.pointer (some ⟨hb, 0, none⟩)] w fun e w' => e = .returned (.tuple #[]) ∧ HeapAt w' base hb K v (sinkN lt n ns 0) pu ∧ Asd hb v.ownBlock w w' := by
  obtain ⟨A, c, hv, hc⟩ := h.slice
  rw [hn] at hv hc
  have H := Lib.hid h
  have HN := Lib.hid hn
  have HK := Lib.hid hK
  clear h hn hK
  obtain ⟨ow, how⟩ : ∃ ow, v.ownBlock = ow := ⟨_, rfl⟩
  rw [how]
  have HOW := Lib.hid how
  have HV := Lib.hid hv
  clear how hv
  go_enter Try.func38, Try.ntmps38
  go_wp2
  go_loopg [2] n (fun g si wr => ∃ (i : Nat) (nk : List Node), si = .int .i64 i ∧ i ≤ n ∧ n - i ≤ g ∧ Hid (nk.length = n) ∧ Hid (sinkN lt n ns 0 = sinkN lt g nk i) ∧ Hid (HeapAt wr base hb K v nk pu) ∧ Hid (Asd hb ow w wr))
  case atStart => exact ⟨0, ns, rfl, by omega, by omega, HN, Lib.hid rfl, H, Lib.hid (Asd.refl _ _ _)⟩
  case round =>
    obtain ⟨i, nk, rfl, hin, hg, HL, HE, HH, HA⟩ := hrel
    have c1 := HH.out.row
    rw [HV.out] at c1
    have i0 : (0 : Int) ≤ (i : Int) := by omega
    have m1 : (0 : Int) ≤ 2 * (i : Int) + 1 := by omega
    have m2 : 2 * (i : Int) + 2 ≤ 3000 := by omega
    by_cases h1 : 2 * i + 1 < n
    · obtain ⟨g2, rfl⟩ : ∃ g2, gk = g2 + 1 := ⟨gk - 1, by omega⟩
      have h1' : 2 * (i : Int) + 1 < (n : Int) := by omega
      have hin' : i < n := by omega
      by_cases h2 : 2 * i + 2 < n
      · have h2' : 2 * (i : Int) + 1 + 1 < (n : Int) := by omega
        have h2'' : 2 * (i : Int) + 2 < (n : Int) := by omega
        cases hb1 : bef lt (gn nk (2 * i + 2)) (gn nk (2 * i + 1))
        · have hdummy := True.intro
          have HB1 := Lib.hid hb1
          have HKID := Lib.hid (kid_left hb1)
          clear hb1
          go_wp2_with fail
          refine (before_at K lt HK.out base hb v nk pu _ HH.out n (2 * i + 2) (2 * i + 1) _ _ HL.out (by omega) (by omega) (by omega) (by omega) false HB1.out).mono ?_
          rintro e w4 ⟨rfl, hb4⟩
          have HH := Lib.hid (HH.out.stays hb4)
          have HA := Lib.hid (HA.out.below hb4)
          clear hb4
          have c1 := HH.out.row
          rw [HV.out] at c1
          cases hb2 : bef lt (gn nk (2 * i + 1)) (gn nk i)
          · have HF := Lib.hid (sinkN_stop (f := g2 + 1) HKID.out hb2)
            have HB2 := Lib.hid hb2
            clear hb2
            go_wp2_with fail
            refine (before_at K lt HK.out base hb v nk pu _ HH.out n (2 * i + 1) i _ _ HL.out (by omega) (by omega) (by omega) hin' false HB2.out).mono ?_
            rintro e w5 ⟨rfl, hb5⟩
            have HH5 := Lib.hid (HH.out.stays hb5)
            have HA5 := Lib.hid (HA.out.below hb5)
            clear hb5
            go_wp2
            (try simp only [Exit.inBlock, Exit.then])
            refine bodyPost_ret (results_none rfl _ _ _) rfl ?_
            exact ⟨rfl, by rw [HE.out, HF.out]; exact HH5.out, HA5.out⟩
          · have HF := Lib.hid (sinkN_go (f := g2) HL.out h1 HKID.out hb2)
            have HB2 := Lib.hid hb2
            clear hb2
            go_wp2_with fail
            refine (before_at K lt HK.out base hb v nk pu _ HH.out n (2 * i + 1) i _ _ HL.out (by omega) (by omega) (by omega) hin' true HB2.out).mono ?_
            rintro e w5 ⟨rfl, hb5⟩
            have HH := Lib.hid (HH.out.stays hb5)
            have HA := Lib.hid (HA.out.below hb5)
            clear hb5
            go_wp2_with fail
            refine (swap_at K base hb v nk pu _ HH.out n i (2 * i + 1) _ _ HL.out (by omega) (by omega) hin' (by omega)).mono ?_
            rintro e w6 ⟨rfl, hh6, ha6⟩
            have HH6 := Lib.hid hh6
            have HA6 := Lib.hid (HA.out.trans ha6 (fun k _ => .inl HOW.out))
            clear hh6 ha6
            go_wp2
            go_roundg g2
            case rel => exact ⟨2 * i + 1, _, by first | rfl | go_num, by omega, by omega, Lib.hid (by rw [swpN_len]; exact HL.out), Lib.hid (by rw [HE.out, HF.out]), HH6, HA6⟩
            case measure => omega
        · have hdummy := True.intro
          have HB1 := Lib.hid hb1
          have HKID := Lib.hid (kid_right HL.out h2 hb1)
          clear hb1
          go_wp2_with fail
          refine (before_at K lt HK.out base hb v nk pu _ HH.out n (2 * i + 2) (2 * i + 1) _ _ HL.out (by omega) (by omega) (by omega) (by omega) true HB1.out).mono ?_
          rintro e w4 ⟨rfl, hb4⟩
          have HH := Lib.hid (HH.out.stays hb4)
          have HA := Lib.hid (HA.out.below hb4)
          clear hb4
          have c1 := HH.out.row
          rw [HV.out] at c1
          cases hb2 : bef lt (gn nk (2 * i + 2)) (gn nk i)
          · have HF := Lib.hid (sinkN_stop (f := g2 + 1) HKID.out hb2)
            have HB2 := Lib.hid hb2
            clear hb2
            go_wp2_with fail
            refine (before_at K lt HK.out base hb v nk pu _ HH.out n (2 * i + 2) i _ _ HL.out (by omega) (by omega) (by omega) hin' false HB2.out).mono ?_
            rintro e w5 ⟨rfl, hb5⟩
            have HH5 := Lib.hid (HH.out.stays hb5)
            have HA5 := Lib.hid (HA.out.below hb5)
            clear hb5
            go_wp2
            (try simp only [Exit.inBlock, Exit.then])
            refine bodyPost_ret (results_none rfl _ _ _) rfl ?_
            exact ⟨rfl, by rw [HE.out, HF.out]; exact HH5.out, HA5.out⟩
          · have HF := Lib.hid (sinkN_go (f := g2) HL.out h1 HKID.out hb2)
            have HB2 := Lib.hid hb2
            clear hb2
            go_wp2_with fail
            refine (before_at K lt HK.out base hb v nk pu _ HH.out n (2 * i + 2) i _ _ HL.out (by omega) (by omega) (by omega) hin' true HB2.out).mono ?_
            rintro e w5 ⟨rfl, hb5⟩
            have HH := Lib.hid (HH.out.stays hb5)
            have HA := Lib.hid (HA.out.below hb5)
            clear hb5
            go_wp2_with fail
            refine (swap_at K base hb v nk pu _ HH.out n i (2 * i + 2) _ _ HL.out (by omega) (by omega) hin' (by omega)).mono ?_
            rintro e w6 ⟨rfl, hh6, ha6⟩
            have HH6 := Lib.hid hh6
            have HA6 := Lib.hid (HA.out.trans ha6 (fun k _ => .inl HOW.out))
            clear hh6 ha6
            go_wp2
            go_roundg g2
            case rel => exact ⟨2 * i + 2, _, by first | rfl | go_num, by omega, by omega, Lib.hid (by rw [swpN_len]; exact HL.out), Lib.hid (by rw [HE.out, HF.out]), HH6, HA6⟩
            case measure => omega
      · have h2' : ¬ 2 * (i : Int) + 1 + 1 < (n : Int) := by omega
        have h2'' : ¬ 2 * (i : Int) + 2 < (n : Int) := by omega
        have HKID := Lib.hid (kid_one (lt := lt) HL.out h2)
        cases hb2 : bef lt (gn nk (2 * i + 1)) (gn nk i)
        · have HF := Lib.hid (sinkN_stop (f := g2 + 1) HKID.out hb2)
          have HB2 := Lib.hid hb2
          clear hb2
          go_wp2_with fail
          refine (before_at K lt HK.out base hb v nk pu _ HH.out n (2 * i + 1) i _ _ HL.out (by omega) (by omega) (by omega) hin' false HB2.out).mono ?_
          rintro e w5 ⟨rfl, hb5⟩
          have HH5 := Lib.hid (HH.out.stays hb5)
          have HA5 := Lib.hid (HA.out.below hb5)
          clear hb5
          go_wp2
          (try simp only [Exit.inBlock, Exit.then])
          refine bodyPost_ret (results_none rfl _ _ _) rfl ?_
          exact ⟨rfl, by rw [HE.out, HF.out]; exact HH5.out, HA5.out⟩
        · have HF := Lib.hid (sinkN_go (f := g2) HL.out h1 HKID.out hb2)
          have HB2 := Lib.hid hb2
          clear hb2
          go_wp2_with fail
          refine (before_at K lt HK.out base hb v nk pu _ HH.out n (2 * i + 1) i _ _ HL.out (by omega) (by omega) (by omega) hin' true HB2.out).mono ?_
          rintro e w5 ⟨rfl, hb5⟩
          have HH := Lib.hid (HH.out.stays hb5)
          have HA := Lib.hid (HA.out.below hb5)
          clear hb5
          go_wp2_with fail
          refine (swap_at K base hb v nk pu _ HH.out n i (2 * i + 1) _ _ HL.out (by omega) (by omega) hin' (by omega)).mono ?_
          rintro e w6 ⟨rfl, hh6, ha6⟩
          have HH6 := Lib.hid hh6
          have HA6 := Lib.hid (HA.out.trans ha6 (fun k _ => .inl HOW.out))
          clear hh6 ha6
          go_wp2
          go_roundg g2
          case rel => exact ⟨2 * i + 1, _, by first | rfl | go_num, by omega, by omega, Lib.hid (by rw [swpN_len]; exact HL.out), Lib.hid (by rw [HE.out, HF.out]), HH6, HA6⟩
          case measure => omega
    · have h1' : (n : Int) ≤ 2 * (i : Int) + 1 := by omega
      have HF := Lib.hid (sinkN_end (lt := lt) (f := gk) (i := i) HL.out (by omega))
      go_wp2
      (try simp only [Exit.inBlock, Exit.then])
      refine bodyPost_ret (results_none rfl _ _ _) rfl ?_
      exact ⟨rfl, by rw [HE.out, HF.out]; exact HH.out, HA.out⟩

theorem len_nil (w : World) : Calls Try.prog 39 #[.pointer none] w fun e w' => e = .returned (.int .i64 0) ∧ w = w' := by
  go_enter Try.func39, Try.ntmps39
  go_wp2
  go_ret
  exact ⟨rfl, rfl⟩
theorem len_any (K : FuncId) (base hb : Nat) (v : Value) (ns : List Node) (pu : Int) (w : World) (h : HeapAt w base hb K v ns pu) (n : Nat) (hn : ns.length = n) :
    Calls Try.prog 39 #[.pointer (some ⟨hb, 0, none⟩)] w fun e w' => e = .returned (.int .i64 n) ∧ w = w' := by
  obtain ⟨A, c, hv, hc⟩ := h.slice
  have c1 := h.row
  rw [hn] at hv
  rw [hv] at c1
  clear hv hn hc h
  go_enter Try.func39, Try.ntmps39
  go_wp2
  go_ret
  exact ⟨rfl, rfl⟩
set_option maxHeartbeats 400000 in
theorem peek_nil (w : World) : Calls Try.prog 37 #[.pointer none] w fun e w' => e = .returned (.tuple #[.agg (la ⟨0, 0, 0⟩), .bool false]) ∧ Below w.heap.size w w' := by
  have r := Nat.le_refl w.heap.size
  go_enter Try.func37, Try.ntmps37
  go_wp2_with fail
  refine (len_nil _).mono ?_
  rintro e w' ⟨rfl, rfl⟩
  go_wp2
  refine bodyPost_ret (v := .tuple #[.agg (la ⟨0, 0, 0⟩), .bool false]) (by simp [results, Try.results37, go_sem]) rfl ⟨rfl, ?_⟩
  exact balloc (balloc (Below.refl _ _) _ r) _ r
set_option maxHeartbeats 400000 in
theorem peek_zero (K : FuncId) (base hb : Nat) (v : Value) (ns : List Node) (pu : Int) (w : World) (h : HeapAt w base hb K v ns pu) (hn : ns.length = 0) : Calls Try.prog 37 #[.pointer (some ⟨hb, 0, none⟩)] w fun e w' => e = .returned (.tuple #[.agg (la ⟨0, 0, 0⟩), .bool false]) ∧ Below w.heap.size w w' := by
  have r := Nat.le_refl w.heap.size
  have H := Lib.hid h
  have HN := Lib.hid hn
  clear h hn
  go_enter Try.func37, Try.ntmps37
  go_wp2_with fail
  refine (len_any K base hb v ns pu _ (H.out.stays (balloc (balloc (Below.refl _ _) _ r) _ r)) 0 HN.out).mono ?_
  rintro e w' ⟨rfl, rfl⟩
  go_wp2
  refine bodyPost_ret (v := .tuple #[.agg (la ⟨0, 0, 0⟩), .bool false]) (by simp [results, Try.results37, go_sem]) rfl ⟨rfl, ?_⟩
  exact balloc (balloc (Below.refl _ _) _ r) _ r
set_option maxHeartbeats 1000000 in
theorem peek_any (K : FuncId) (base hb : Nat) (v : Value) (ns : List Node) (pu : Int) (w : World) (h : HeapAt w base hb K v ns pu) (n : Nat) (hn : ns.length = n) (h0 : 0 < n) : Calls Try.prog 37 #[.pointer (some ⟨hb, 0, none⟩)] w fun e w' => e = .returned (.tuple #[.agg (la (gn ns 0).p), .bool true]) ∧ Below w.heap.size w w' := by
  have r := Nat.le_refl w.heap.size
  have HW := Lib.hid (h.stays (balloc (balloc (Below.refl _ w) (.cells #[.int .i64 0, .int .i64 0, .int .i64 0] 57) r) (.cells #[.int .i64 0, .int .i64 0, .int .i64 0] 57) r))
  have HN := Lib.hid hn
  obtain ⟨g, c, hv, hc, hg, hgb, hS⟩ := HW.out.some_ (by omega)
  obtain ⟨a0, a1, a2, a3⟩ := node_cells' hS (hn ▸ h0)
  have c1 := HW.out.row
  rw [hv, hn] at c1
  rw [Nat.zero_mul] at a0 a1 a2 a3
  rw [Nat.zero_add] at a1 a2 a3
  have h0' : (0 : Int) < (n : Int) := by omega
  have hne : ((n : Int) == 0) = false := by rw [beq_eq_false_iff_ne]; omega
  clear h hn hv hc hS
  go_enter Try.func37, Try.ntmps37
  go_wp2_with fail
  refine (len_any K base hb v ns pu _ HW.out n HN.out).mono ?_
  rintro e w' ⟨rfl, rfl⟩
  go_wp2
  refine bodyPost_ret (v := .tuple #[.agg (la (gn ns 0).p), .bool true]) (by simp [results, Try.results37, go_sem]) rfl ⟨rfl, ?_⟩
  exact balloc (balloc (Below.refl _ _) _ r) _ r
end Go.Proofs.Ytabhinmodnmllaa
