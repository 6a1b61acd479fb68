/-
  The walks of the statements on ranges of days and on overrides. Printed by gen/calv.py.
-/
import Derived.Test.YtjmjejpfilejdaaCalW
import Derived.Test.YtjmjejpfilejdaaRec2
namespace Go.Proofs.Ytjmjejpfilejdaa
open Go.RowKit

set_option maxRecDepth 100000 in
set_option maxHeartbeats 4000000 in
theorem ranges_walk (A : Option Addr) (n c : Nat) (l : List Cal) (B : Option Addr) (m g : Nat) (x : List Exc) (i p q : Int) (w : World) (hl : SAt calC w A n l) (_hs : SizedC l) (hx : SAt excC w B m x) (_hs2 : SizedX x) :
    Calls Try.prog 8 #[.agg #[.slice A n c, .slice B m g], .int .i64 i, .agg #[.int .i64 p, .int .i64 q]] w fun e w' => e = .returned (.bool true) ∧ Below w.heap.size w w' := by
  have r := Nat.le_refl w.heap.size
  have L := Lib.hid hl
  have X := Lib.hid hx
  clear hl hx
  have T := Lib.hid (BoxV.new w #[.slice A n c, .slice B m g] 35)
  have hbv := BoxV.new (w.alloc (.cells #[.slice A n c, .slice B m g] 35)) #[.int .i64 p, .int .i64 q] 41
  rw [World.size_alloc] at hbv
  have S := Lib.hid hbv
  clear hbv
  have hb := balloc (Below.refl (w).heap.size (w)) (.cells #[.slice A n c, .slice B m g] 35) (Nat.le_refl _)
  have L := Lib.hid (L.out.stays hb)
  have X := Lib.hid (X.out.stays hb)
  have HB := Lib.hid hb
  clear hb
  have hb := balloc (Below.refl (w.alloc (.cells #[.slice A n c, .slice B m g] 35)).heap.size (w.alloc (.cells #[.slice A n c, .slice B m g] 35))) (.cells #[.int .i64 p, .int .i64 q] 41) (Nat.le_refl _)
  have L := Lib.hid (L.out.stays hb)
  have X := Lib.hid (X.out.stays hb)
  have T := Lib.hid (T.out.stays hb)
  have HB := Lib.hid (bthen HB.out hb r)
  clear hb
  by_cases hsm : ¬ (n ≤ 8 ∧ m ≤ 20)
  · go_enter Try.func8, Try.ntmps8
    have t0 := T.out 0 _ rfl
    have t1 := T.out 1 _ rfl
    have s0 := S.out 0 _ rfl
    have s1 := S.out 1 _ rfl
    go_wp2_with fail
    clear t0 t1 s0 s1
    refine (small_no _ _ _ _ _ _ _ hsm).mono ?_
    rintro e w1 ⟨rfl, hb⟩
    have L := Lib.hid (L.out.stays hb)
    have X := Lib.hid (X.out.stays hb)
    have T := Lib.hid (T.out.stays hb)
    have S := Lib.hid (S.out.stays hb)
    have HB := Lib.hid (bthen HB.out hb r)
    clear hb
    have t0 := T.out 0 _ rfl
    have t1 := T.out 1 _ rfl
    have s0 := S.out 0 _ rfl
    have s1 := S.out 1 _ rfl
    go_wp2_with fail
    refine (example_any _).mono ?_
    rintro e w2 ⟨rfl, hb⟩
    have L := Lib.hid (L.out.stays hb)
    have X := Lib.hid (X.out.stays hb)
    have T := Lib.hid (T.out.stays hb)
    have S := Lib.hid (S.out.stays hb)
    have HB := Lib.hid (bthen HB.out hb r)
    clear hb
    go_wp2
    go_ret
    exact ⟨rfl, HB.out⟩
  obtain ⟨hn, hm⟩ := Decidable.not_not.1 hsm
  by_cases h1 : p < 0
  · go_enter Try.func8, Try.ntmps8
    have t0 := T.out 0 _ rfl
    have t1 := T.out 1 _ rfl
    have s0 := S.out 0 _ rfl
    have s1 := S.out 1 _ rfl
    go_wp2_with fail
    clear t0 t1 s0 s1
    refine (small_yes _ _ _ _ _ _ _ hn hm).mono ?_
    rintro e w1 ⟨rfl, hb⟩
    have L := Lib.hid (L.out.stays hb)
    have X := Lib.hid (X.out.stays hb)
    have T := Lib.hid (T.out.stays hb)
    have S := Lib.hid (S.out.stays hb)
    have HB := Lib.hid (bthen HB.out hb r)
    clear hb
    have s0 := S.out 0 _ rfl
    have s1 := S.out 1 _ rfl
    go_wp2_with fail
    clear s0 s1
    refine (example_any _).mono ?_
    rintro e w9 ⟨rfl, hb⟩
    have HB := Lib.hid (bthen HB.out hb r)
    clear hb
    go_wp2
    go_ret
    exact ⟨rfl, HB.out⟩
  by_cases h2 : 36524 < q
  · go_enter Try.func8, Try.ntmps8
    have t0 := T.out 0 _ rfl
    have t1 := T.out 1 _ rfl
    have s0 := S.out 0 _ rfl
    have s1 := S.out 1 _ rfl
    go_wp2_with fail
    clear t0 t1 s0 s1
    refine (small_yes _ _ _ _ _ _ _ hn hm).mono ?_
    rintro e w1 ⟨rfl, hb⟩
    have L := Lib.hid (L.out.stays hb)
    have X := Lib.hid (X.out.stays hb)
    have T := Lib.hid (T.out.stays hb)
    have S := Lib.hid (S.out.stays hb)
    have HB := Lib.hid (bthen HB.out hb r)
    clear hb
    have s0 := S.out 0 _ rfl
    have s1 := S.out 1 _ rfl
    go_wp2_with fail
    clear s0 s1
    refine (example_any _).mono ?_
    rintro e w9 ⟨rfl, hb⟩
    have HB := Lib.hid (bthen HB.out hb r)
    clear hb
    go_wp2
    go_ret
    exact ⟨rfl, HB.out⟩
  by_cases h3 : q < p
  · go_enter Try.func8, Try.ntmps8
    have t0 := T.out 0 _ rfl
    have t1 := T.out 1 _ rfl
    have s0 := S.out 0 _ rfl
    have s1 := S.out 1 _ rfl
    go_wp2_with fail
    clear t0 t1 s0 s1
    refine (small_yes _ _ _ _ _ _ _ hn hm).mono ?_
    rintro e w1 ⟨rfl, hb⟩
    have L := Lib.hid (L.out.stays hb)
    have X := Lib.hid (X.out.stays hb)
    have T := Lib.hid (T.out.stays hb)
    have S := Lib.hid (S.out.stays hb)
    have HB := Lib.hid (bthen HB.out hb r)
    clear hb
    have s0 := S.out 0 _ rfl
    have s1 := S.out 1 _ rfl
    go_wp2_with fail
    clear s0 s1
    refine (example_any _).mono ?_
    rintro e w9 ⟨rfl, hb⟩
    have HB := Lib.hid (bthen HB.out hb r)
    clear hb
    go_wp2
    go_ret
    exact ⟨rfl, HB.out⟩
  by_cases h4 : 400 < q - p
  · go_enter Try.func8, Try.ntmps8
    have t0 := T.out 0 _ rfl
    have t1 := T.out 1 _ rfl
    have s0 := S.out 0 _ rfl
    have s1 := S.out 1 _ rfl
    go_wp2_with fail
    clear t0 t1 s0 s1
    refine (small_yes _ _ _ _ _ _ _ hn hm).mono ?_
    rintro e w1 ⟨rfl, hb⟩
    have L := Lib.hid (L.out.stays hb)
    have X := Lib.hid (X.out.stays hb)
    have T := Lib.hid (T.out.stays hb)
    have S := Lib.hid (S.out.stays hb)
    have HB := Lib.hid (bthen HB.out hb r)
    clear hb
    have s0 := S.out 0 _ rfl
    have s1 := S.out 1 _ rfl
    go_wp2_with fail
    clear s0 s1
    refine (example_any _).mono ?_
    rintro e w9 ⟨rfl, hb⟩
    have HB := Lib.hid (bthen HB.out hb r)
    clear hb
    go_wp2
    go_ret
    exact ⟨rfl, HB.out⟩
  obtain ⟨K, hK⟩ : ∃ K : Nat, K = (q + 1 - p).toNat := ⟨_, rfl⟩
  have hKi : (K : Int) = q + 1 - p := by omega
  have hd1 := fun w hl hx => days_any A B n c m g l x i p q w hl hx (by omega) (by omega)
  rw [days_in (by omega) (by omega), ← hK] at hd1
  obtain ⟨D, hD⟩ : ∃ D, D = actTo l x i p K := ⟨_, rfl⟩
  have hdl := act_len l x i p K
  have re := fun h => range_empty (l := l) (x := x) (i := i) (t := p) (u := q) (by omega) (by omega) (by omega) h
  have rf := fun h => range_full (l := l) (x := x) (i := i) (t := p) (u := q) (by omega) (by omega) h
  rw [← hK, ← hD] at re rf
  rw [← hD] at hd1 hdl
  have HD := Lib.hid hD
  clear hK
  by_cases hnil : D = []
  · obtain ⟨r1, r2⟩ := re hnil
    have hno := act_none (hD.symm.trans hnil)
    have HNO := Lib.hid hno
    have hd2 : ∀ w, SAt calC w A n l → SAt excC w B m x → Calls Try.prog 23 #[.slice A n c, .slice B m g, .int .i64 i, .int .i64 p, .int .i64 q] w fun e w' => ∃ (A : Option Addr) (c : Nat), e = .returned (.slice A 0 c) ∧ Below w.heap.size w w' := fun w hl hx => (hd1 w hl hx).mono (by
      rintro e w' ⟨A, c, rfl, _, _, _, hb, _⟩
      rw [hnil]
      exact ⟨A, c, rfl, hb⟩)
    have hn1 := fun w hl hx => next_any A B n c m g l x i p w hl hx (by omega) (by omega)
    have hp1 := fun w hl hx => prev_any A B n c m g l x i q w hl hx (by omega) (by omega)
    obtain ⟨nb, hnb⟩ : ∃ b, b = nextB l x i p := ⟨_, rfl⟩
    obtain ⟨ni, hni⟩ : ∃ b, b = nextI l x i p := ⟨_, rfl⟩
    obtain ⟨pb, hpb⟩ : ∃ b, b = prevB l x i q := ⟨_, rfl⟩
    obtain ⟨pi, hpi⟩ : ∃ b, b = prevI l x i q := ⟨_, rfl⟩
    rw [← hnb, ← hni] at hn1 r1
    rw [← hpb, ← hpi] at hp1 r2
    have HR1 := Lib.hid r1
    have HR2 := Lib.hid r2
    clear r1 r2 hnb hni hpb hpi re rf hnil hD hno hd1 hdl HD D
    go_enter Try.func8, Try.ntmps8
    have t0 := T.out 0 _ rfl
    have t1 := T.out 1 _ rfl
    have s0 := S.out 0 _ rfl
    have s1 := S.out 1 _ rfl
    go_wp2_with fail
    clear t0 t1 s0 s1
    refine (small_yes _ _ _ _ _ _ _ hn hm).mono ?_
    rintro e w1 ⟨rfl, hb⟩
    have L := Lib.hid (L.out.stays hb)
    have X := Lib.hid (X.out.stays hb)
    have T := Lib.hid (T.out.stays hb)
    have S := Lib.hid (S.out.stays hb)
    have HB := Lib.hid (bthen HB.out hb r)
    clear hb
    have t0 := T.out 0 _ rfl
    have t1 := T.out 1 _ rfl
    have s0 := S.out 0 _ rfl
    have s1 := S.out 1 _ rfl
    go_wp2_with fail
    clear t0 t1 s0 s1
    refine (hd2 _ L.out X.out).mono ?_
    rintro e w2 ⟨Ad, cd, rfl, hb⟩
    have L := Lib.hid (L.out.stays hb)
    have X := Lib.hid (X.out.stays hb)
    have T := Lib.hid (T.out.stays hb)
    have S := Lib.hid (S.out.stays hb)
    have HB := Lib.hid (bthen HB.out hb r)
    clear hb
    clear hd2
    have t0 := T.out 0 _ rfl
    have t1 := T.out 1 _ rfl
    have s0 := S.out 0 _ rfl
    have s1 := S.out 1 _ rfl
    go_wp2
    clear t0 t1 s0 s1
    go_loopw [8, 9] (fun s8 s9 wr => ∃ k : Nat, k ≤ K ∧ s9 = .int .i64 (p + (k : Int)) ∧ s8 = .int .i64 0 ∧ Hid (SAt calC wr A n l) ∧ Hid (SAt excC wr B m x) ∧ Hid (BoxV wr w.heap.size (#[.slice A n c, .slice B m g] : Array Value).toList) ∧ Hid (BoxV wr (w.heap.size + 1) (#[.int .i64 p, .int .i64 q] : Array Value).toList) ∧ Hid (Below w.heap.size w wr)) (fun _ s9 _ => (36525 - intOf s9).toNat)
    case atStart => exact ⟨0, by omega, by simp, rfl, L, X, T, S, HB⟩
    case round =>
      clear L X T S HB
      obtain ⟨k, hk, rfl, rfl, L, X, T, S, HB⟩ := hrel
      by_cases hkK : k < K
      · have hv : p + (k : Int) ≤ q := by omega
        have hc := act_any A B n c m g l x i (p + (k : Int)) wr L.out X.out (by omega) (by omega)
        rw [HNO.out k hkK] at hc
        have t0 := T.out 0 _ rfl
        have t1 := T.out 1 _ rfl
        have s0 := S.out 0 _ rfl
        have s1 := S.out 1 _ rfl
        go_wp2_with fail
        clear t0 t1 s0 s1
        refine hc.mono ?_
        rintro e w3 ⟨rfl, hb⟩
        have L := Lib.hid (L.out.stays hb)
        have X := Lib.hid (X.out.stays hb)
        have T := Lib.hid (T.out.stays hb)
        have S := Lib.hid (S.out.stays hb)
        have HB := Lib.hid (bthen HB.out hb r)
        clear hb
        go_wp2
        go_roundw
        case rel => exact ⟨k + 1, by omega, by go_num, rfl, L, X, T, S, HB⟩
        case measure => simp [intOf]; omega
      · obtain rfl : k = K := by omega
        have hv : ¬ p + (k : Int) ≤ q := by omega
        cases nb
        · cases pb
          · have tok := trivial
            have t0 := T.out 0 _ rfl
            have t1 := T.out 1 _ rfl
            have s0 := S.out 0 _ rfl
            have s1 := S.out 1 _ rfl
            go_wp2_with fail
            clear t0 t1 s0 s1
            refine (hn1 _ L.out X.out).mono ?_
            rintro e w4 ⟨rfl, hb⟩
            have L := Lib.hid (L.out.stays hb)
            have X := Lib.hid (X.out.stays hb)
            have T := Lib.hid (T.out.stays hb)
            have S := Lib.hid (S.out.stays hb)
            have HB := Lib.hid (bthen HB.out hb r)
            clear hb
            have t0 := T.out 0 _ rfl
            have t1 := T.out 1 _ rfl
            have s0 := S.out 0 _ rfl
            have s1 := S.out 1 _ rfl
            go_wp2_with fail
            clear t0 t1 s0 s1
            refine (hp1 _ L.out X.out).mono ?_
            rintro e w5 ⟨rfl, hb⟩
            have L := Lib.hid (L.out.stays hb)
            have X := Lib.hid (X.out.stays hb)
            have T := Lib.hid (T.out.stays hb)
            have S := Lib.hid (S.out.stays hb)
            have HB := Lib.hid (bthen HB.out hb r)
            clear hb
            have t0 := T.out 0 _ rfl
            have t1 := T.out 1 _ rfl
            have s0 := S.out 0 _ rfl
            have s1 := S.out 1 _ rfl
            go_wp2_with fail
            clear t0 t1 s0 s1
            refine (example_any _).mono ?_
            rintro e w6 ⟨rfl, hb⟩
            have HB := Lib.hid (bthen HB.out hb r)
            clear hb
            go_wp2
            go_ret
            exact ⟨rfl, HB.out⟩
          · have hq2 : pi < p := HR2.out.resolve_left (fun h => by cases h)
            have tok := trivial
            have t0 := T.out 0 _ rfl
            have t1 := T.out 1 _ rfl
            have s0 := S.out 0 _ rfl
            have s1 := S.out 1 _ rfl
            go_wp2_with fail
            clear t0 t1 s0 s1
            refine (hn1 _ L.out X.out).mono ?_
            rintro e w4 ⟨rfl, hb⟩
            have L := Lib.hid (L.out.stays hb)
            have X := Lib.hid (X.out.stays hb)
            have T := Lib.hid (T.out.stays hb)
            have S := Lib.hid (S.out.stays hb)
            have HB := Lib.hid (bthen HB.out hb r)
            clear hb
            have t0 := T.out 0 _ rfl
            have t1 := T.out 1 _ rfl
            have s0 := S.out 0 _ rfl
            have s1 := S.out 1 _ rfl
            go_wp2_with fail
            clear t0 t1 s0 s1
            refine (hp1 _ L.out X.out).mono ?_
            rintro e w5 ⟨rfl, hb⟩
            have L := Lib.hid (L.out.stays hb)
            have X := Lib.hid (X.out.stays hb)
            have T := Lib.hid (T.out.stays hb)
            have S := Lib.hid (S.out.stays hb)
            have HB := Lib.hid (bthen HB.out hb r)
            clear hb
            have t0 := T.out 0 _ rfl
            have t1 := T.out 1 _ rfl
            have s0 := S.out 0 _ rfl
            have s1 := S.out 1 _ rfl
            go_wp2_with fail
            clear t0 t1 s0 s1
            refine (example_any _).mono ?_
            rintro e w6 ⟨rfl, hb⟩
            have HB := Lib.hid (bthen HB.out hb r)
            clear hb
            go_wp2
            go_ret
            exact ⟨rfl, HB.out⟩
        · cases pb
          · have hq1 : q < ni := HR1.out.resolve_left (fun h => by cases h)
            have tok := trivial
            have t0 := T.out 0 _ rfl
            have t1 := T.out 1 _ rfl
            have s0 := S.out 0 _ rfl
            have s1 := S.out 1 _ rfl
            go_wp2_with fail
            clear t0 t1 s0 s1
            refine (hn1 _ L.out X.out).mono ?_
            rintro e w4 ⟨rfl, hb⟩
            have L := Lib.hid (L.out.stays hb)
            have X := Lib.hid (X.out.stays hb)
            have T := Lib.hid (T.out.stays hb)
            have S := Lib.hid (S.out.stays hb)
            have HB := Lib.hid (bthen HB.out hb r)
            clear hb
            have t0 := T.out 0 _ rfl
            have t1 := T.out 1 _ rfl
            have s0 := S.out 0 _ rfl
            have s1 := S.out 1 _ rfl
            go_wp2_with fail
            clear t0 t1 s0 s1
            refine (hp1 _ L.out X.out).mono ?_
            rintro e w5 ⟨rfl, hb⟩
            have L := Lib.hid (L.out.stays hb)
            have X := Lib.hid (X.out.stays hb)
            have T := Lib.hid (T.out.stays hb)
            have S := Lib.hid (S.out.stays hb)
            have HB := Lib.hid (bthen HB.out hb r)
            clear hb
            have t0 := T.out 0 _ rfl
            have t1 := T.out 1 _ rfl
            have s0 := S.out 0 _ rfl
            have s1 := S.out 1 _ rfl
            go_wp2_with fail
            clear t0 t1 s0 s1
            refine (example_any _).mono ?_
            rintro e w6 ⟨rfl, hb⟩
            have HB := Lib.hid (bthen HB.out hb r)
            clear hb
            go_wp2
            go_ret
            exact ⟨rfl, HB.out⟩
          · have hq1 : q < ni := HR1.out.resolve_left (fun h => by cases h)
            have hq2 : pi < p := HR2.out.resolve_left (fun h => by cases h)
            have tok := trivial
            have t0 := T.out 0 _ rfl
            have t1 := T.out 1 _ rfl
            have s0 := S.out 0 _ rfl
            have s1 := S.out 1 _ rfl
            go_wp2_with fail
            clear t0 t1 s0 s1
            refine (hn1 _ L.out X.out).mono ?_
            rintro e w4 ⟨rfl, hb⟩
            have L := Lib.hid (L.out.stays hb)
            have X := Lib.hid (X.out.stays hb)
            have T := Lib.hid (T.out.stays hb)
            have S := Lib.hid (S.out.stays hb)
            have HB := Lib.hid (bthen HB.out hb r)
            clear hb
            have t0 := T.out 0 _ rfl
            have t1 := T.out 1 _ rfl
            have s0 := S.out 0 _ rfl
            have s1 := S.out 1 _ rfl
            go_wp2_with fail
            clear t0 t1 s0 s1
            refine (hp1 _ L.out X.out).mono ?_
            rintro e w5 ⟨rfl, hb⟩
            have L := Lib.hid (L.out.stays hb)
            have X := Lib.hid (X.out.stays hb)
            have T := Lib.hid (T.out.stays hb)
            have S := Lib.hid (S.out.stays hb)
            have HB := Lib.hid (bthen HB.out hb r)
            clear hb
            have t0 := T.out 0 _ rfl
            have t1 := T.out 1 _ rfl
            have s0 := S.out 0 _ rfl
            have s1 := S.out 1 _ rfl
            go_wp2_with fail
            clear t0 t1 s0 s1
            refine (example_any _).mono ?_
            rintro e w6 ⟨rfl, hb⟩
            have HB := Lib.hid (bthen HB.out hb r)
            clear hb
            go_wp2
            go_ret
            exact ⟨rfl, HB.out⟩
  · obtain ⟨f1, f2, f3, f4⟩ := rf hnil
    obtain ⟨d, hd⟩ : ∃ d, D.length = d + 1 := ⟨D.length - 1, by have := List.length_pos_iff.2 hnil; omega⟩
    have hat := fun k hk => act_at (l := l) (x := x) (i := i) (t := p) (k := k) (m := K) hk
    rw [← hD, hd] at hat
    have HAT := Lib.hid hat
    have hd2 : ∀ w, SAt calC w A n l → SAt excC w B m x → Calls Try.prog 23 #[.slice A n c, .slice B m g, .int .i64 i, .int .i64 p, .int .i64 q] w fun e w' => ∃ (b : Nat) (c : Nat), e = .returned (.slice (some ⟨b, 0, none⟩) (d + 1) c) ∧ Hid (IntsAt w' (some ⟨b, 0, none⟩) (d + 1) D) ∧ Below w.heap.size w w' := fun w hl hx => (hd1 w hl hx).mono (by
      rintro e w' ⟨A, c, rfl, hi, _, _, hb, hg⟩
      obtain ⟨b, rfl⟩ := hg (by omega)
      rw [hd] at hi ⊢
      exact ⟨b, c, rfl, Lib.hid hi, hb⟩)
    have hn1 := fun w hl hx => next_any A B n c m g l x i p w hl hx (by omega) (by omega)
    have hp1 := fun w hl hx => prev_any A B n c m g l x i q w hl hx (by omega) (by omega)
    rw [f1, f2] at hn1
    rw [f3, f4, hd, Nat.add_sub_cancel] at hp1
    have HL : Hid ((actTo l x i p K).length = d + 1) := Lib.hid (by rw [← hD]; exact hd)
    have hd41 : d ≤ 401 := by omega
    clear f1 f2 f3 f4 re rf hnil hD hat hd1 hdl hd HD
    go_enter Try.func8, Try.ntmps8
    have t0 := T.out 0 _ rfl
    have t1 := T.out 1 _ rfl
    have s0 := S.out 0 _ rfl
    have s1 := S.out 1 _ rfl
    go_wp2_with fail
    clear t0 t1 s0 s1
    refine (small_yes _ _ _ _ _ _ _ hn hm).mono ?_
    rintro e w1 ⟨rfl, hb⟩
    have L := Lib.hid (L.out.stays hb)
    have X := Lib.hid (X.out.stays hb)
    have T := Lib.hid (T.out.stays hb)
    have S := Lib.hid (S.out.stays hb)
    have HB := Lib.hid (bthen HB.out hb r)
    clear hb
    have t0 := T.out 0 _ rfl
    have t1 := T.out 1 _ rfl
    have s0 := S.out 0 _ rfl
    have s1 := S.out 1 _ rfl
    go_wp2_with fail
    clear t0 t1 s0 s1
    refine (hd2 _ L.out X.out).mono ?_
    rintro e w2 ⟨b, cd, rfl, P, hb⟩
    have L := Lib.hid (L.out.stays hb)
    have X := Lib.hid (X.out.stays hb)
    have T := Lib.hid (T.out.stays hb)
    have S := Lib.hid (S.out.stays hb)
    have HB := Lib.hid (bthen HB.out hb r)
    clear hb
    clear hd2
    have t0 := T.out 0 _ rfl
    have t1 := T.out 1 _ rfl
    have s0 := S.out 0 _ rfl
    have s1 := S.out 1 _ rfl
    go_wp2
    clear t0 t1 s0 s1
    go_loopw [8, 9] (fun s8 s9 wr => ∃ k z : Nat, k ≤ K ∧ s9 = .int .i64 (p + (k : Int)) ∧ s8 = .int .i64 z ∧ Hid (z = (actTo l x i p k).length) ∧ Hid (SAt calC wr A n l) ∧ Hid (SAt excC wr B m x) ∧ Hid (BoxV wr w.heap.size (#[.slice A n c, .slice B m g] : Array Value).toList) ∧ Hid (BoxV wr (w.heap.size + 1) (#[.int .i64 p, .int .i64 q] : Array Value).toList) ∧ Hid (IntsAt wr (some ⟨b, 0, none⟩) (d + 1) D) ∧ Hid (Below w.heap.size w wr)) (fun _ s9 _ => (36525 - intOf s9).toNat)
    case atStart => exact ⟨0, 0, by omega, by simp, rfl, Lib.hid rfl, L, X, T, S, P, HB⟩
    case round =>
      clear L X T S P HB
      obtain ⟨k, z, hk, rfl, rfl, HZ, L, X, T, S, P, HB⟩ := hrel
      by_cases hkK : k < K
      · have hv : p + (k : Int) ≤ q := by omega
        have hc := act_any A B n c m g l x i (p + (k : Int)) wr L.out X.out (by omega) (by omega)
        have HST := Lib.hid (act_step l x i p k)
        have HA1 := Lib.hid (HAT.out k hkK)
        cases ha : actB l x i (p + (k : Int))
        · rw [ha] at hc HST
          clear ha
          have t0 := T.out 0 _ rfl
          have t1 := T.out 1 _ rfl
          have s0 := S.out 0 _ rfl
          have s1 := S.out 1 _ rfl
          go_wp2_with fail
          clear t0 t1 s0 s1
          refine hc.mono ?_
          rintro e w3 ⟨rfl, hb⟩
          have L := Lib.hid (L.out.stays hb)
          have X := Lib.hid (X.out.stays hb)
          have T := Lib.hid (T.out.stays hb)
          have S := Lib.hid (S.out.stays hb)
          have P := Lib.hid (P.out.stays hb)
          have HB := Lib.hid (bthen HB.out hb r)
          clear hb
          go_wp2
          go_roundw
          case rel => exact ⟨k + 1, z, by omega, by go_num, rfl, Lib.hid (by rw [HST.out]; exact HZ.out), L, X, T, S, P, HB⟩
          case measure => simp [intOf]; omega
        · obtain ⟨zl, zg⟩ := HA1.out ha
          rw [← HZ.out] at zl zg
          rw [ha] at hc HST
          have HZG := Lib.hid zg
          have z0 : (0 : Int) ≤ (z : Int) := by omega
          have z1 : (z : Int) < (d : Int) + 1 := by omega
          have z2 : ¬ d + 1 ≤ z := by omega
          clear ha zg
          have t0 := T.out 0 _ rfl
          have t1 := T.out 1 _ rfl
          have s0 := S.out 0 _ rfl
          have s1 := S.out 1 _ rfl
          go_wp2_with fail
          clear t0 t1 s0 s1
          refine hc.mono ?_
          rintro e w3 ⟨rfl, hb⟩
          have L := Lib.hid (L.out.stays hb)
          have X := Lib.hid (X.out.stays hb)
          have T := Lib.hid (T.out.stays hb)
          have S := Lib.hid (S.out.stays hb)
          have P := Lib.hid (P.out.stays hb)
          have HB := Lib.hid (bthen HB.out hb r)
          clear hb
          have hcell := P.out.at_ z zl
          rw [HZG.out] at hcell
          go_wp2
          go_roundw
          case rel => exact ⟨k + 1, z + 1, by omega, by go_num, by go_num, Lib.hid (by rw [HST.out, if_pos (by trivial), List.length_append, ← HZ.out]; rfl), L, X, T, S, P, HB⟩
          case measure => simp [intOf]; omega
      · obtain rfl : k = K := by omega
        have hv : ¬ p + (k : Int) ≤ q := by omega
        obtain rfl : z = d + 1 := HZ.out.trans HL.out
        have t0 := T.out 0 _ rfl
        have t1 := T.out 1 _ rfl
        have s0 := S.out 0 _ rfl
        have s1 := S.out 1 _ rfl
        go_wp2_with fail
        clear t0 t1 s0 s1
        refine (hn1 _ L.out X.out).mono ?_
        rintro e w4 ⟨rfl, hb⟩
        have L := Lib.hid (L.out.stays hb)
        have X := Lib.hid (X.out.stays hb)
        have T := Lib.hid (T.out.stays hb)
        have S := Lib.hid (S.out.stays hb)
        have P := Lib.hid (P.out.stays hb)
        have HB := Lib.hid (bthen HB.out hb r)
        clear hb
        have t0 := T.out 0 _ rfl
        have t1 := T.out 1 _ rfl
        have s0 := S.out 0 _ rfl
        have s1 := S.out 1 _ rfl
        go_wp2_with fail
        clear t0 t1 s0 s1
        refine (hp1 _ L.out X.out).mono ?_
        rintro e w5 ⟨rfl, hb⟩
        have L := Lib.hid (L.out.stays hb)
        have X := Lib.hid (X.out.stays hb)
        have T := Lib.hid (T.out.stays hb)
        have S := Lib.hid (S.out.stays hb)
        have P := Lib.hid (P.out.stays hb)
        have HB := Lib.hid (bthen HB.out hb r)
        clear hb
        have hc0 := P.out.at_ 0 (by omega)
        have hc1 := P.out.at_ d (by omega)
        have t0 := T.out 0 _ rfl
        have t1 := T.out 1 _ rfl
        have s0 := S.out 0 _ rfl
        have s1 := S.out 1 _ rfl
        go_wp2_with fail
        clear t0 t1 s0 s1
        refine (example_any _).mono ?_
        rintro e w6 ⟨rfl, hb⟩
        have HB := Lib.hid (bthen HB.out hb r)
        clear hb
        go_wp2
        go_ret
        exact ⟨rfl, HB.out⟩

theorem exc_info : (Try.prog.info? 53).map (fun i => (i.zero, i.size, i.bytes)) = some (some (.agg #[.int .i64 0, .int .i64 0, .bool false]), 3, 24) := by kernel_rfl

set_option maxRecDepth 100000 in
set_option maxHeartbeats 4000000 in
theorem overrides_walk (A : Option Addr) (n c : Nat) (l : List Cal) (B : Option Addr) (m g : Nat) (x : List Exc) (e y : Exc) (w : World) (hl : SAt calC w A n l) (_hs : SizedC l) (hx : SAt excC w B m x) (_hs2 : SizedX x) (_he : I64 e.cal ∧ I64 e.day) (_hy : I64 y.cal ∧ I64 y.day) :
    Calls Try.prog 10 #[.agg #[.slice A n c, .slice B m g], .agg (excA e), .agg (excA y)] w fun e w' => e = .returned (.bool true) ∧ Below w.heap.size w w' := by
  have r := Nat.le_refl w.heap.size
  have L := Lib.hid hl
  have X := Lib.hid hx
  clear hl hx
  have T := Lib.hid (BoxV.new w #[.slice A n c, .slice B m g] 35)
  have hbv := BoxV.new (w.alloc (.cells #[.slice A n c, .slice B m g] 35)) (excA e) 53
  rw [World.size_alloc] at hbv
  have E := Lib.hid hbv
  clear hbv
  have hbv := BoxV.new ((w.alloc (.cells #[.slice A n c, .slice B m g] 35)).alloc (.cells (excA e) 53)) (excA y) 53
  rw [World.size_alloc, World.size_alloc] at hbv
  have Y := Lib.hid hbv
  clear hbv
  have hb := balloc (Below.refl (w).heap.size (w)) (.cells #[.slice A n c, .slice B m g] 35) (Nat.le_refl _)
  have L := Lib.hid (L.out.stays hb)
  have X := Lib.hid (X.out.stays hb)
  have HB := Lib.hid hb
  clear hb
  have hb := balloc (Below.refl (w.alloc (.cells #[.slice A n c, .slice B m g] 35)).heap.size (w.alloc (.cells #[.slice A n c, .slice B m g] 35))) (.cells (excA e) 53) (Nat.le_refl _)
  have L := Lib.hid (L.out.stays hb)
  have X := Lib.hid (X.out.stays hb)
  have T := Lib.hid (T.out.stays hb)
  have HB := Lib.hid (bthen HB.out hb r)
  clear hb
  have hb := balloc (Below.refl ((w.alloc (.cells #[.slice A n c, .slice B m g] 35)).alloc (.cells (excA e) 53)).heap.size ((w.alloc (.cells #[.slice A n c, .slice B m g] 35)).alloc (.cells (excA e) 53))) (.cells (excA y) 53) (Nat.le_refl _)
  have L := Lib.hid (L.out.stays hb)
  have X := Lib.hid (X.out.stays hb)
  have T := Lib.hid (T.out.stays hb)
  have E := Lib.hid (E.out.stays hb)
  have HB := Lib.hid (bthen HB.out hb r)
  clear hb
  by_cases hsm : ¬ (n ≤ 8 ∧ m ≤ 20)
  · go_enter Try.func10, Try.ntmps10
    have t0 := T.out 0 _ rfl
    have t1 := T.out 1 _ rfl
    go_wp2_with fail
    clear t0 t1
    refine (small_no _ _ _ _ _ _ _ hsm).mono ?_
    rintro e w1 ⟨rfl, hb⟩
    have L := Lib.hid (L.out.stays hb)
    have X := Lib.hid (X.out.stays hb)
    have T := Lib.hid (T.out.stays hb)
    have E := Lib.hid (E.out.stays hb)
    have Y := Lib.hid (Y.out.stays hb)
    have HB := Lib.hid (bthen HB.out hb r)
    clear hb
    go_wp2_with fail
    refine (example_any _).mono ?_
    rintro e w2 ⟨rfl, hb⟩
    have L := Lib.hid (L.out.stays hb)
    have X := Lib.hid (X.out.stays hb)
    have T := Lib.hid (T.out.stays hb)
    have E := Lib.hid (E.out.stays hb)
    have Y := Lib.hid (Y.out.stays hb)
    have HB := Lib.hid (bthen HB.out hb r)
    clear hb
    go_wp2
    go_ret
    exact ⟨rfl, HB.out⟩
  obtain ⟨hn, hm⟩ := Decidable.not_not.1 hsm
  obtain ⟨i0, hi, hz0, hz1, hz2⟩ := info_parts exc_info
  clear hsm
  by_cases hcal : e.cal = y.cal
  · by_cases hday : e.day = y.day
    · have f1 : (y.cal != e.cal) = false := by rw [hcal]; simp
      have f2 : (y.day != e.day) = false := by rw [hday]; simp
      rcases reason_range l x y.cal y.day with hr | hr | hr | hr | hr | hr
      · have hs := over_same (l := l) (x := x) (i := y.cal) (d := y.day) e (Or.inr (Or.inr (Or.inl hr)))
        have h1 := fun w hl hx => reason_any A B n c m g l x y.cal y.day w hl hx (by omega) (by omega)
        have h2 := fun Aa ca w hl hx => reason_any A Aa n c (m + 1) ca l (x ++ [e]) y.cal y.day w hl hx (by omega) (by omega)
        rw [hr] at h1
        rw [hs, hr] at h2
        clear hs hr hcal hday
        go_enter Try.func10, Try.ntmps10
        have t0 := T.out 0 _ rfl
        have t1 := T.out 1 _ rfl
        go_wp2_with fail
        clear t0 t1
        refine (small_yes _ _ _ _ _ _ _ hn hm).mono ?_
        rintro e w1 ⟨rfl, hb⟩
        have L := Lib.hid (L.out.stays hb)
        have X := Lib.hid (X.out.stays hb)
        have T := Lib.hid (T.out.stays hb)
        have E := Lib.hid (E.out.stays hb)
        have Y := Lib.hid (Y.out.stays hb)
        have HB := Lib.hid (bthen HB.out hb r)
        clear hb
        have t0 := T.out 0 _ rfl
        have t1 := T.out 1 _ rfl
        go_upto_region 5 with (at_builtin; refine wpList_append_sat (C := excC) rfl _ _ 30 rfl w1.heap.size 53 i0 (.agg #[.int .i64 0, .int .i64 0, .bool false]) 24 Try.underlying30 hi hz0 hz1 hz2 rfl (by decide) (.slice none 0 0) 0 [] rfl (World.ownsRow_nil _ _ _ _) B m g x rfl X.out (by unfold maxLen; omega) (by omega) (Nat.le_refl _) ?_; intro v3 w3 hown hb3)
        clear t0 t1
        rw [Nat.zero_add, List.nil_append] at hown
        have HO := Lib.hid hown
        have HB3 := Lib.hid hb3
        have E3 := Lib.hid (E.out.stays hb3)
        clear hown hb3
        have e0 := E3.out 0 _ rfl
        have e1 := E3.out 1 _ rfl
        have e2 := E3.out 2 _ rfl
        go_upto_region 6 with (at_builtin; refine wpList_append_own _ rfl _ _ 30 rfl w1.heap.size 53 i0 (.agg #[.int .i64 0, .int .i64 0, .bool false]) 3 24 Try.underlying30 hi hz0 hz1 hz2 rfl (by decide) _ _ _ rfl (HO.out.alloc _) ⟨w3.heap.size, 0, none⟩ 1 1 [.int .i64 e.cal, .int .i64 e.day, .bool e.add] rfl rfl (cs_new excC _ ⟨e.cal, e.day, e.add⟩ _ _ rfl) (excC.one ⟨e.cal, e.day, e.add⟩) (by unfold maxLen; omega) (by omega) (balloc HB3.out _ (Nat.le_refl _)).size ?_; intro v4 w4 hown hgrow _)
        clear e0 e1 e2
        have hb := below_app HB3.out HB3.out.size (Nat.le_refl _) HO.out hgrow
        have hx2 : w4.ownsRow w1.heap.size 53 3 v4 (m + 1) (excC.all (x ++ [e])) := by rw [Codec.all_app, Codec.all_one];  exact hown
        obtain ⟨Aa, ca, rfl, _⟩ := ownsRow_slice hx2
        have XM := Lib.hid (show SAt excC _ _ _ _ from SAt.own hx2 (by decide))
        clear hown hgrow HO HB3 E3 hx2
        have L := Lib.hid (L.out.stays hb)
        have X := Lib.hid (X.out.stays hb)
        have T := Lib.hid (T.out.stays hb)
        have E := Lib.hid (E.out.stays hb)
        have Y := Lib.hid (Y.out.stays hb)
        have HB := Lib.hid (bthen HB.out hb r)
        clear hb
        have t0 := T.out 0 _ rfl
        have t1 := T.out 1 _ rfl
        have y0 := Y.out 0 _ rfl
        have y1 := Y.out 1 _ rfl
        go_wp2_with fail
        clear t0 t1 y0 y1
        refine (h1 _ L.out X.out).mono ?_
        rintro e5 w5 ⟨rfl, hb⟩
        have L := Lib.hid (L.out.stays hb)
        have X := Lib.hid (X.out.stays hb)
        have T := Lib.hid (T.out.stays hb)
        have E := Lib.hid (E.out.stays hb)
        have Y := Lib.hid (Y.out.stays hb)
        have XM := Lib.hid (XM.out.stays hb)
        have HB := Lib.hid (bthen HB.out hb r)
        clear hb
        have t0 := T.out 0 _ rfl
        have t1 := T.out 1 _ rfl
        have y0 := Y.out 0 _ rfl
        have y1 := Y.out 1 _ rfl
        go_wp2_with fail
        clear t0 t1 y0 y1
        refine (h2 _ _ _ L.out XM.out).mono ?_
        rintro e6 w6 ⟨rfl, hb⟩
        have L := Lib.hid (L.out.stays hb)
        have X := Lib.hid (X.out.stays hb)
        have T := Lib.hid (T.out.stays hb)
        have E := Lib.hid (E.out.stays hb)
        have Y := Lib.hid (Y.out.stays hb)
        have XM := Lib.hid (XM.out.stays hb)
        have HB := Lib.hid (bthen HB.out hb r)
        clear hb
        have e0 := E.out 0 _ rfl
        have e1 := E.out 1 _ rfl
        have e2 := E.out 2 _ rfl
        have y0 := Y.out 0 _ rfl
        have y1 := Y.out 1 _ rfl
        go_wp2_with fail
        refine (example_any _).mono ?_
        rintro e7 w7 ⟨rfl, hb⟩
        have HB := Lib.hid (bthen HB.out hb r)
        clear hb e0 e1 e2 y0 y1
        go_wp2
        go_ret
        exact ⟨rfl, HB.out⟩
      · have hs := over_add (l := l) (x := x) (i := y.cal) (d := y.day) e hcal hday (by omega) (by omega) (by omega)
        cases hadd : e.add
        · rw [hadd] at hs
          have h1 := fun w hl hx => reason_any A B n c m g l x y.cal y.day w hl hx (by omega) (by omega)
          have h2 := fun Aa ca w hl hx => reason_any A Aa n c (m + 1) ca l (x ++ [e]) y.cal y.day w hl hx (by omega) (by omega)
          rw [hr] at h1
          rw [hs] at h2
          simp only [Bool.false_eq_true, if_false] at h2
          clear hs hr hcal hday
          go_enter Try.func10, Try.ntmps10
          have t0 := T.out 0 _ rfl
          have t1 := T.out 1 _ rfl
          go_wp2_with fail
          clear t0 t1
          refine (small_yes _ _ _ _ _ _ _ hn hm).mono ?_
          rintro e w1 ⟨rfl, hb⟩
          have L := Lib.hid (L.out.stays hb)
          have X := Lib.hid (X.out.stays hb)
          have T := Lib.hid (T.out.stays hb)
          have E := Lib.hid (E.out.stays hb)
          have Y := Lib.hid (Y.out.stays hb)
          have HB := Lib.hid (bthen HB.out hb r)
          clear hb
          have t0 := T.out 0 _ rfl
          have t1 := T.out 1 _ rfl
          go_upto_region 5 with (at_builtin; refine wpList_append_sat (C := excC) rfl _ _ 30 rfl w1.heap.size 53 i0 (.agg #[.int .i64 0, .int .i64 0, .bool false]) 24 Try.underlying30 hi hz0 hz1 hz2 rfl (by decide) (.slice none 0 0) 0 [] rfl (World.ownsRow_nil _ _ _ _) B m g x rfl X.out (by unfold maxLen; omega) (by omega) (Nat.le_refl _) ?_; intro v3 w3 hown hb3)
          clear t0 t1
          rw [Nat.zero_add, List.nil_append] at hown
          have HO := Lib.hid hown
          have HB3 := Lib.hid hb3
          have E3 := Lib.hid (E.out.stays hb3)
          clear hown hb3
          have e0 := E3.out 0 _ rfl
          have e1 := E3.out 1 _ rfl
          have e2 := E3.out 2 _ rfl
          rw [hadd] at e2
          go_upto_region 6 with (at_builtin; refine wpList_append_own _ rfl _ _ 30 rfl w1.heap.size 53 i0 (.agg #[.int .i64 0, .int .i64 0, .bool false]) 3 24 Try.underlying30 hi hz0 hz1 hz2 rfl (by decide) _ _ _ rfl (HO.out.alloc _) ⟨w3.heap.size, 0, none⟩ 1 1 [.int .i64 e.cal, .int .i64 e.day, .bool false] rfl rfl (cs_new excC _ ⟨e.cal, e.day, false⟩ _ _ rfl) (excC.one ⟨e.cal, e.day, false⟩) (by unfold maxLen; omega) (by omega) (balloc HB3.out _ (Nat.le_refl _)).size ?_; intro v4 w4 hown hgrow _)
          clear e0 e1 e2
          have hb := below_app HB3.out HB3.out.size (Nat.le_refl _) HO.out hgrow
          have hx2 : w4.ownsRow w1.heap.size 53 3 v4 (m + 1) (excC.all (x ++ [e])) := by rw [Codec.all_app, Codec.all_one]; rw [show excC.cs e = [.int .i64 e.cal, .int .i64 e.day, .bool false] by rw [← hadd]; rfl]; exact hown
          obtain ⟨Aa, ca, rfl, _⟩ := ownsRow_slice hx2
          have XM := Lib.hid (show SAt excC _ _ _ _ from SAt.own hx2 (by decide))
          clear hown hgrow HO HB3 E3 hx2
          have L := Lib.hid (L.out.stays hb)
          have X := Lib.hid (X.out.stays hb)
          have T := Lib.hid (T.out.stays hb)
          have E := Lib.hid (E.out.stays hb)
          have Y := Lib.hid (Y.out.stays hb)
          have HB := Lib.hid (bthen HB.out hb r)
          clear hb
          have t0 := T.out 0 _ rfl
          have t1 := T.out 1 _ rfl
          have y0 := Y.out 0 _ rfl
          have y1 := Y.out 1 _ rfl
          go_wp2_with fail
          clear t0 t1 y0 y1
          refine (h1 _ L.out X.out).mono ?_
          rintro e5 w5 ⟨rfl, hb⟩
          have L := Lib.hid (L.out.stays hb)
          have X := Lib.hid (X.out.stays hb)
          have T := Lib.hid (T.out.stays hb)
          have E := Lib.hid (E.out.stays hb)
          have Y := Lib.hid (Y.out.stays hb)
          have XM := Lib.hid (XM.out.stays hb)
          have HB := Lib.hid (bthen HB.out hb r)
          clear hb
          have t0 := T.out 0 _ rfl
          have t1 := T.out 1 _ rfl
          have y0 := Y.out 0 _ rfl
          have y1 := Y.out 1 _ rfl
          go_wp2_with fail
          clear t0 t1 y0 y1
          refine (h2 _ _ _ L.out XM.out).mono ?_
          rintro e6 w6 ⟨rfl, hb⟩
          have L := Lib.hid (L.out.stays hb)
          have X := Lib.hid (X.out.stays hb)
          have T := Lib.hid (T.out.stays hb)
          have E := Lib.hid (E.out.stays hb)
          have Y := Lib.hid (Y.out.stays hb)
          have XM := Lib.hid (XM.out.stays hb)
          have HB := Lib.hid (bthen HB.out hb r)
          clear hb
          have e0 := E.out 0 _ rfl
          have e1 := E.out 1 _ rfl
          have e2 := E.out 2 _ rfl
          have y0 := Y.out 0 _ rfl
          have y1 := Y.out 1 _ rfl
          rw [hadd] at e2
          go_wp2_with fail
          refine (example_any _).mono ?_
          rintro e7 w7 ⟨rfl, hb⟩
          have HB := Lib.hid (bthen HB.out hb r)
          clear hb e0 e1 e2 y0 y1
          go_wp2
          go_ret
          exact ⟨rfl, HB.out⟩
        · rw [hadd] at hs
          have h1 := fun w hl hx => reason_any A B n c m g l x y.cal y.day w hl hx (by omega) (by omega)
          have h2 := fun Aa ca w hl hx => reason_any A Aa n c (m + 1) ca l (x ++ [e]) y.cal y.day w hl hx (by omega) (by omega)
          rw [hr] at h1
          rw [hs] at h2
          simp only [if_true] at h2
          clear hs hr hcal hday
          go_enter Try.func10, Try.ntmps10
          have t0 := T.out 0 _ rfl
          have t1 := T.out 1 _ rfl
          go_wp2_with fail
          clear t0 t1
          refine (small_yes _ _ _ _ _ _ _ hn hm).mono ?_
          rintro e w1 ⟨rfl, hb⟩
          have L := Lib.hid (L.out.stays hb)
          have X := Lib.hid (X.out.stays hb)
          have T := Lib.hid (T.out.stays hb)
          have E := Lib.hid (E.out.stays hb)
          have Y := Lib.hid (Y.out.stays hb)
          have HB := Lib.hid (bthen HB.out hb r)
          clear hb
          have t0 := T.out 0 _ rfl
          have t1 := T.out 1 _ rfl
          go_upto_region 5 with (at_builtin; refine wpList_append_sat (C := excC) rfl _ _ 30 rfl w1.heap.size 53 i0 (.agg #[.int .i64 0, .int .i64 0, .bool false]) 24 Try.underlying30 hi hz0 hz1 hz2 rfl (by decide) (.slice none 0 0) 0 [] rfl (World.ownsRow_nil _ _ _ _) B m g x rfl X.out (by unfold maxLen; omega) (by omega) (Nat.le_refl _) ?_; intro v3 w3 hown hb3)
          clear t0 t1
          rw [Nat.zero_add, List.nil_append] at hown
          have HO := Lib.hid hown
          have HB3 := Lib.hid hb3
          have E3 := Lib.hid (E.out.stays hb3)
          clear hown hb3
          have e0 := E3.out 0 _ rfl
          have e1 := E3.out 1 _ rfl
          have e2 := E3.out 2 _ rfl
          rw [hadd] at e2
          go_upto_region 6 with (at_builtin; refine wpList_append_own _ rfl _ _ 30 rfl w1.heap.size 53 i0 (.agg #[.int .i64 0, .int .i64 0, .bool false]) 3 24 Try.underlying30 hi hz0 hz1 hz2 rfl (by decide) _ _ _ rfl (HO.out.alloc _) ⟨w3.heap.size, 0, none⟩ 1 1 [.int .i64 e.cal, .int .i64 e.day, .bool true] rfl rfl (cs_new excC _ ⟨e.cal, e.day, true⟩ _ _ rfl) (excC.one ⟨e.cal, e.day, true⟩) (by unfold maxLen; omega) (by omega) (balloc HB3.out _ (Nat.le_refl _)).size ?_; intro v4 w4 hown hgrow _)
          clear e0 e1 e2
          have hb := below_app HB3.out HB3.out.size (Nat.le_refl _) HO.out hgrow
          have hx2 : w4.ownsRow w1.heap.size 53 3 v4 (m + 1) (excC.all (x ++ [e])) := by rw [Codec.all_app, Codec.all_one]; rw [show excC.cs e = [.int .i64 e.cal, .int .i64 e.day, .bool true] by rw [← hadd]; rfl]; exact hown
          obtain ⟨Aa, ca, rfl, _⟩ := ownsRow_slice hx2
          have XM := Lib.hid (show SAt excC _ _ _ _ from SAt.own hx2 (by decide))
          clear hown hgrow HO HB3 E3 hx2
          have L := Lib.hid (L.out.stays hb)
          have X := Lib.hid (X.out.stays hb)
          have T := Lib.hid (T.out.stays hb)
          have E := Lib.hid (E.out.stays hb)
          have Y := Lib.hid (Y.out.stays hb)
          have HB := Lib.hid (bthen HB.out hb r)
          clear hb
          have t0 := T.out 0 _ rfl
          have t1 := T.out 1 _ rfl
          have y0 := Y.out 0 _ rfl
          have y1 := Y.out 1 _ rfl
          go_wp2_with fail
          clear t0 t1 y0 y1
          refine (h1 _ L.out X.out).mono ?_
          rintro e5 w5 ⟨rfl, hb⟩
          have L := Lib.hid (L.out.stays hb)
          have X := Lib.hid (X.out.stays hb)
          have T := Lib.hid (T.out.stays hb)
          have E := Lib.hid (E.out.stays hb)
          have Y := Lib.hid (Y.out.stays hb)
          have XM := Lib.hid (XM.out.stays hb)
          have HB := Lib.hid (bthen HB.out hb r)
          clear hb
          have t0 := T.out 0 _ rfl
          have t1 := T.out 1 _ rfl
          have y0 := Y.out 0 _ rfl
          have y1 := Y.out 1 _ rfl
          go_wp2_with fail
          clear t0 t1 y0 y1
          refine (h2 _ _ _ L.out XM.out).mono ?_
          rintro e6 w6 ⟨rfl, hb⟩
          have L := Lib.hid (L.out.stays hb)
          have X := Lib.hid (X.out.stays hb)
          have T := Lib.hid (T.out.stays hb)
          have E := Lib.hid (E.out.stays hb)
          have Y := Lib.hid (Y.out.stays hb)
          have XM := Lib.hid (XM.out.stays hb)
          have HB := Lib.hid (bthen HB.out hb r)
          clear hb
          have e0 := E.out 0 _ rfl
          have e1 := E.out 1 _ rfl
          have e2 := E.out 2 _ rfl
          have y0 := Y.out 0 _ rfl
          have y1 := Y.out 1 _ rfl
          rw [hadd] at e2
          go_wp2_with fail
          refine (example_any _).mono ?_
          rintro e7 w7 ⟨rfl, hb⟩
          have HB := Lib.hid (bthen HB.out hb r)
          clear hb e0 e1 e2 y0 y1
          go_wp2
          go_ret
          exact ⟨rfl, HB.out⟩
      · have hs := over_same (l := l) (x := x) (i := y.cal) (d := y.day) e (Or.inr (Or.inr (Or.inr (Or.inl hr))))
        have h1 := fun w hl hx => reason_any A B n c m g l x y.cal y.day w hl hx (by omega) (by omega)
        have h2 := fun Aa ca w hl hx => reason_any A Aa n c (m + 1) ca l (x ++ [e]) y.cal y.day w hl hx (by omega) (by omega)
        rw [hr] at h1
        rw [hs, hr] at h2
        clear hs hr hcal hday
        go_enter Try.func10, Try.ntmps10
        have t0 := T.out 0 _ rfl
        have t1 := T.out 1 _ rfl
        go_wp2_with fail
        clear t0 t1
        refine (small_yes _ _ _ _ _ _ _ hn hm).mono ?_
        rintro e w1 ⟨rfl, hb⟩
        have L := Lib.hid (L.out.stays hb)
        have X := Lib.hid (X.out.stays hb)
        have T := Lib.hid (T.out.stays hb)
        have E := Lib.hid (E.out.stays hb)
        have Y := Lib.hid (Y.out.stays hb)
        have HB := Lib.hid (bthen HB.out hb r)
        clear hb
        have t0 := T.out 0 _ rfl
        have t1 := T.out 1 _ rfl
        go_upto_region 5 with (at_builtin; refine wpList_append_sat (C := excC) rfl _ _ 30 rfl w1.heap.size 53 i0 (.agg #[.int .i64 0, .int .i64 0, .bool false]) 24 Try.underlying30 hi hz0 hz1 hz2 rfl (by decide) (.slice none 0 0) 0 [] rfl (World.ownsRow_nil _ _ _ _) B m g x rfl X.out (by unfold maxLen; omega) (by omega) (Nat.le_refl _) ?_; intro v3 w3 hown hb3)
        clear t0 t1
        rw [Nat.zero_add, List.nil_append] at hown
        have HO := Lib.hid hown
        have HB3 := Lib.hid hb3
        have E3 := Lib.hid (E.out.stays hb3)
        clear hown hb3
        have e0 := E3.out 0 _ rfl
        have e1 := E3.out 1 _ rfl
        have e2 := E3.out 2 _ rfl
        go_upto_region 6 with (at_builtin; refine wpList_append_own _ rfl _ _ 30 rfl w1.heap.size 53 i0 (.agg #[.int .i64 0, .int .i64 0, .bool false]) 3 24 Try.underlying30 hi hz0 hz1 hz2 rfl (by decide) _ _ _ rfl (HO.out.alloc _) ⟨w3.heap.size, 0, none⟩ 1 1 [.int .i64 e.cal, .int .i64 e.day, .bool e.add] rfl rfl (cs_new excC _ ⟨e.cal, e.day, e.add⟩ _ _ rfl) (excC.one ⟨e.cal, e.day, e.add⟩) (by unfold maxLen; omega) (by omega) (balloc HB3.out _ (Nat.le_refl _)).size ?_; intro v4 w4 hown hgrow _)
        clear e0 e1 e2
        have hb := below_app HB3.out HB3.out.size (Nat.le_refl _) HO.out hgrow
        have hx2 : w4.ownsRow w1.heap.size 53 3 v4 (m + 1) (excC.all (x ++ [e])) := by rw [Codec.all_app, Codec.all_one];  exact hown
        obtain ⟨Aa, ca, rfl, _⟩ := ownsRow_slice hx2
        have XM := Lib.hid (show SAt excC _ _ _ _ from SAt.own hx2 (by decide))
        clear hown hgrow HO HB3 E3 hx2
        have L := Lib.hid (L.out.stays hb)
        have X := Lib.hid (X.out.stays hb)
        have T := Lib.hid (T.out.stays hb)
        have E := Lib.hid (E.out.stays hb)
        have Y := Lib.hid (Y.out.stays hb)
        have HB := Lib.hid (bthen HB.out hb r)
        clear hb
        have t0 := T.out 0 _ rfl
        have t1 := T.out 1 _ rfl
        have y0 := Y.out 0 _ rfl
        have y1 := Y.out 1 _ rfl
        go_wp2_with fail
        clear t0 t1 y0 y1
        refine (h1 _ L.out X.out).mono ?_
        rintro e5 w5 ⟨rfl, hb⟩
        have L := Lib.hid (L.out.stays hb)
        have X := Lib.hid (X.out.stays hb)
        have T := Lib.hid (T.out.stays hb)
        have E := Lib.hid (E.out.stays hb)
        have Y := Lib.hid (Y.out.stays hb)
        have XM := Lib.hid (XM.out.stays hb)
        have HB := Lib.hid (bthen HB.out hb r)
        clear hb
        have t0 := T.out 0 _ rfl
        have t1 := T.out 1 _ rfl
        have y0 := Y.out 0 _ rfl
        have y1 := Y.out 1 _ rfl
        go_wp2_with fail
        clear t0 t1 y0 y1
        refine (h2 _ _ _ L.out XM.out).mono ?_
        rintro e6 w6 ⟨rfl, hb⟩
        have L := Lib.hid (L.out.stays hb)
        have X := Lib.hid (X.out.stays hb)
        have T := Lib.hid (T.out.stays hb)
        have E := Lib.hid (E.out.stays hb)
        have Y := Lib.hid (Y.out.stays hb)
        have XM := Lib.hid (XM.out.stays hb)
        have HB := Lib.hid (bthen HB.out hb r)
        clear hb
        have e0 := E.out 0 _ rfl
        have e1 := E.out 1 _ rfl
        have e2 := E.out 2 _ rfl
        have y0 := Y.out 0 _ rfl
        have y1 := Y.out 1 _ rfl
        go_wp2_with fail
        refine (example_any _).mono ?_
        rintro e7 w7 ⟨rfl, hb⟩
        have HB := Lib.hid (bthen HB.out hb r)
        clear hb e0 e1 e2 y0 y1
        go_wp2
        go_ret
        exact ⟨rfl, HB.out⟩
      · have hs := over_same (l := l) (x := x) (i := y.cal) (d := y.day) e (Or.inr (Or.inr (Or.inr (Or.inr hr))))
        have h1 := fun w hl hx => reason_any A B n c m g l x y.cal y.day w hl hx (by omega) (by omega)
        have h2 := fun Aa ca w hl hx => reason_any A Aa n c (m + 1) ca l (x ++ [e]) y.cal y.day w hl hx (by omega) (by omega)
        rw [hr] at h1
        rw [hs, hr] at h2
        clear hs hr hcal hday
        go_enter Try.func10, Try.ntmps10
        have t0 := T.out 0 _ rfl
        have t1 := T.out 1 _ rfl
        go_wp2_with fail
        clear t0 t1
        refine (small_yes _ _ _ _ _ _ _ hn hm).mono ?_
        rintro e w1 ⟨rfl, hb⟩
        have L := Lib.hid (L.out.stays hb)
        have X := Lib.hid (X.out.stays hb)
        have T := Lib.hid (T.out.stays hb)
        have E := Lib.hid (E.out.stays hb)
        have Y := Lib.hid (Y.out.stays hb)
        have HB := Lib.hid (bthen HB.out hb r)
        clear hb
        have t0 := T.out 0 _ rfl
        have t1 := T.out 1 _ rfl
        go_upto_region 5 with (at_builtin; refine wpList_append_sat (C := excC) rfl _ _ 30 rfl w1.heap.size 53 i0 (.agg #[.int .i64 0, .int .i64 0, .bool false]) 24 Try.underlying30 hi hz0 hz1 hz2 rfl (by decide) (.slice none 0 0) 0 [] rfl (World.ownsRow_nil _ _ _ _) B m g x rfl X.out (by unfold maxLen; omega) (by omega) (Nat.le_refl _) ?_; intro v3 w3 hown hb3)
        clear t0 t1
        rw [Nat.zero_add, List.nil_append] at hown
        have HO := Lib.hid hown
        have HB3 := Lib.hid hb3
        have E3 := Lib.hid (E.out.stays hb3)
        clear hown hb3
        have e0 := E3.out 0 _ rfl
        have e1 := E3.out 1 _ rfl
        have e2 := E3.out 2 _ rfl
        go_upto_region 6 with (at_builtin; refine wpList_append_own _ rfl _ _ 30 rfl w1.heap.size 53 i0 (.agg #[.int .i64 0, .int .i64 0, .bool false]) 3 24 Try.underlying30 hi hz0 hz1 hz2 rfl (by decide) _ _ _ rfl (HO.out.alloc _) ⟨w3.heap.size, 0, none⟩ 1 1 [.int .i64 e.cal, .int .i64 e.day, .bool e.add] rfl rfl (cs_new excC _ ⟨e.cal, e.day, e.add⟩ _ _ rfl) (excC.one ⟨e.cal, e.day, e.add⟩) (by unfold maxLen; omega) (by omega) (balloc HB3.out _ (Nat.le_refl _)).size ?_; intro v4 w4 hown hgrow _)
        clear e0 e1 e2
        have hb := below_app HB3.out HB3.out.size (Nat.le_refl _) HO.out hgrow
        have hx2 : w4.ownsRow w1.heap.size 53 3 v4 (m + 1) (excC.all (x ++ [e])) := by rw [Codec.all_app, Codec.all_one];  exact hown
        obtain ⟨Aa, ca, rfl, _⟩ := ownsRow_slice hx2
        have XM := Lib.hid (show SAt excC _ _ _ _ from SAt.own hx2 (by decide))
        clear hown hgrow HO HB3 E3 hx2
        have L := Lib.hid (L.out.stays hb)
        have X := Lib.hid (X.out.stays hb)
        have T := Lib.hid (T.out.stays hb)
        have E := Lib.hid (E.out.stays hb)
        have Y := Lib.hid (Y.out.stays hb)
        have HB := Lib.hid (bthen HB.out hb r)
        clear hb
        have t0 := T.out 0 _ rfl
        have t1 := T.out 1 _ rfl
        have y0 := Y.out 0 _ rfl
        have y1 := Y.out 1 _ rfl
        go_wp2_with fail
        clear t0 t1 y0 y1
        refine (h1 _ L.out X.out).mono ?_
        rintro e5 w5 ⟨rfl, hb⟩
        have L := Lib.hid (L.out.stays hb)
        have X := Lib.hid (X.out.stays hb)
        have T := Lib.hid (T.out.stays hb)
        have E := Lib.hid (E.out.stays hb)
        have Y := Lib.hid (Y.out.stays hb)
        have XM := Lib.hid (XM.out.stays hb)
        have HB := Lib.hid (bthen HB.out hb r)
        clear hb
        have t0 := T.out 0 _ rfl
        have t1 := T.out 1 _ rfl
        have y0 := Y.out 0 _ rfl
        have y1 := Y.out 1 _ rfl
        go_wp2_with fail
        clear t0 t1 y0 y1
        refine (h2 _ _ _ L.out XM.out).mono ?_
        rintro e6 w6 ⟨rfl, hb⟩
        have L := Lib.hid (L.out.stays hb)
        have X := Lib.hid (X.out.stays hb)
        have T := Lib.hid (T.out.stays hb)
        have E := Lib.hid (E.out.stays hb)
        have Y := Lib.hid (Y.out.stays hb)
        have XM := Lib.hid (XM.out.stays hb)
        have HB := Lib.hid (bthen HB.out hb r)
        clear hb
        have e0 := E.out 0 _ rfl
        have e1 := E.out 1 _ rfl
        have e2 := E.out 2 _ rfl
        have y0 := Y.out 0 _ rfl
        have y1 := Y.out 1 _ rfl
        go_wp2_with fail
        refine (example_any _).mono ?_
        rintro e7 w7 ⟨rfl, hb⟩
        have HB := Lib.hid (bthen HB.out hb r)
        clear hb e0 e1 e2 y0 y1
        go_wp2
        go_ret
        exact ⟨rfl, HB.out⟩
      · have hs := over_add (l := l) (x := x) (i := y.cal) (d := y.day) e hcal hday (by omega) (by omega) (by omega)
        cases hadd : e.add
        · rw [hadd] at hs
          have h1 := fun w hl hx => reason_any A B n c m g l x y.cal y.day w hl hx (by omega) (by omega)
          have h2 := fun Aa ca w hl hx => reason_any A Aa n c (m + 1) ca l (x ++ [e]) y.cal y.day w hl hx (by omega) (by omega)
          rw [hr] at h1
          rw [hs] at h2
          simp only [Bool.false_eq_true, if_false] at h2
          clear hs hr hcal hday
          go_enter Try.func10, Try.ntmps10
          have t0 := T.out 0 _ rfl
          have t1 := T.out 1 _ rfl
          go_wp2_with fail
          clear t0 t1
          refine (small_yes _ _ _ _ _ _ _ hn hm).mono ?_
          rintro e w1 ⟨rfl, hb⟩
          have L := Lib.hid (L.out.stays hb)
          have X := Lib.hid (X.out.stays hb)
          have T := Lib.hid (T.out.stays hb)
          have E := Lib.hid (E.out.stays hb)
          have Y := Lib.hid (Y.out.stays hb)
          have HB := Lib.hid (bthen HB.out hb r)
          clear hb
          have t0 := T.out 0 _ rfl
          have t1 := T.out 1 _ rfl
          go_upto_region 5 with (at_builtin; refine wpList_append_sat (C := excC) rfl _ _ 30 rfl w1.heap.size 53 i0 (.agg #[.int .i64 0, .int .i64 0, .bool false]) 24 Try.underlying30 hi hz0 hz1 hz2 rfl (by decide) (.slice none 0 0) 0 [] rfl (World.ownsRow_nil _ _ _ _) B m g x rfl X.out (by unfold maxLen; omega) (by omega) (Nat.le_refl _) ?_; intro v3 w3 hown hb3)
          clear t0 t1
          rw [Nat.zero_add, List.nil_append] at hown
          have HO := Lib.hid hown
          have HB3 := Lib.hid hb3
          have E3 := Lib.hid (E.out.stays hb3)
          clear hown hb3
          have e0 := E3.out 0 _ rfl
          have e1 := E3.out 1 _ rfl
          have e2 := E3.out 2 _ rfl
          rw [hadd] at e2
          go_upto_region 6 with (at_builtin; refine wpList_append_own _ rfl _ _ 30 rfl w1.heap.size 53 i0 (.agg #[.int .i64 0, .int .i64 0, .bool false]) 3 24 Try.underlying30 hi hz0 hz1 hz2 rfl (by decide) _ _ _ rfl (HO.out.alloc _) ⟨w3.heap.size, 0, none⟩ 1 1 [.int .i64 e.cal, .int .i64 e.day, .bool false] rfl rfl (cs_new excC _ ⟨e.cal, e.day, false⟩ _ _ rfl) (excC.one ⟨e.cal, e.day, false⟩) (by unfold maxLen; omega) (by omega) (balloc HB3.out _ (Nat.le_refl _)).size ?_; intro v4 w4 hown hgrow _)
          clear e0 e1 e2
          have hb := below_app HB3.out HB3.out.size (Nat.le_refl _) HO.out hgrow
          have hx2 : w4.ownsRow w1.heap.size 53 3 v4 (m + 1) (excC.all (x ++ [e])) := by rw [Codec.all_app, Codec.all_one]; rw [show excC.cs e = [.int .i64 e.cal, .int .i64 e.day, .bool false] by rw [← hadd]; rfl]; exact hown
          obtain ⟨Aa, ca, rfl, _⟩ := ownsRow_slice hx2
          have XM := Lib.hid (show SAt excC _ _ _ _ from SAt.own hx2 (by decide))
          clear hown hgrow HO HB3 E3 hx2
          have L := Lib.hid (L.out.stays hb)
          have X := Lib.hid (X.out.stays hb)
          have T := Lib.hid (T.out.stays hb)
          have E := Lib.hid (E.out.stays hb)
          have Y := Lib.hid (Y.out.stays hb)
          have HB := Lib.hid (bthen HB.out hb r)
          clear hb
          have t0 := T.out 0 _ rfl
          have t1 := T.out 1 _ rfl
          have y0 := Y.out 0 _ rfl
          have y1 := Y.out 1 _ rfl
          go_wp2_with fail
          clear t0 t1 y0 y1
          refine (h1 _ L.out X.out).mono ?_
          rintro e5 w5 ⟨rfl, hb⟩
          have L := Lib.hid (L.out.stays hb)
          have X := Lib.hid (X.out.stays hb)
          have T := Lib.hid (T.out.stays hb)
          have E := Lib.hid (E.out.stays hb)
          have Y := Lib.hid (Y.out.stays hb)
          have XM := Lib.hid (XM.out.stays hb)
          have HB := Lib.hid (bthen HB.out hb r)
          clear hb
          have t0 := T.out 0 _ rfl
          have t1 := T.out 1 _ rfl
          have y0 := Y.out 0 _ rfl
          have y1 := Y.out 1 _ rfl
          go_wp2_with fail
          clear t0 t1 y0 y1
          refine (h2 _ _ _ L.out XM.out).mono ?_
          rintro e6 w6 ⟨rfl, hb⟩
          have L := Lib.hid (L.out.stays hb)
          have X := Lib.hid (X.out.stays hb)
          have T := Lib.hid (T.out.stays hb)
          have E := Lib.hid (E.out.stays hb)
          have Y := Lib.hid (Y.out.stays hb)
          have XM := Lib.hid (XM.out.stays hb)
          have HB := Lib.hid (bthen HB.out hb r)
          clear hb
          have e0 := E.out 0 _ rfl
          have e1 := E.out 1 _ rfl
          have e2 := E.out 2 _ rfl
          have y0 := Y.out 0 _ rfl
          have y1 := Y.out 1 _ rfl
          rw [hadd] at e2
          go_wp2_with fail
          refine (example_any _).mono ?_
          rintro e7 w7 ⟨rfl, hb⟩
          have HB := Lib.hid (bthen HB.out hb r)
          clear hb e0 e1 e2 y0 y1
          go_wp2
          go_ret
          exact ⟨rfl, HB.out⟩
        · rw [hadd] at hs
          have h1 := fun w hl hx => reason_any A B n c m g l x y.cal y.day w hl hx (by omega) (by omega)
          have h2 := fun Aa ca w hl hx => reason_any A Aa n c (m + 1) ca l (x ++ [e]) y.cal y.day w hl hx (by omega) (by omega)
          rw [hr] at h1
          rw [hs] at h2
          simp only [if_true] at h2
          clear hs hr hcal hday
          go_enter Try.func10, Try.ntmps10
          have t0 := T.out 0 _ rfl
          have t1 := T.out 1 _ rfl
          go_wp2_with fail
          clear t0 t1
          refine (small_yes _ _ _ _ _ _ _ hn hm).mono ?_
          rintro e w1 ⟨rfl, hb⟩
          have L := Lib.hid (L.out.stays hb)
          have X := Lib.hid (X.out.stays hb)
          have T := Lib.hid (T.out.stays hb)
          have E := Lib.hid (E.out.stays hb)
          have Y := Lib.hid (Y.out.stays hb)
          have HB := Lib.hid (bthen HB.out hb r)
          clear hb
          have t0 := T.out 0 _ rfl
          have t1 := T.out 1 _ rfl
          go_upto_region 5 with (at_builtin; refine wpList_append_sat (C := excC) rfl _ _ 30 rfl w1.heap.size 53 i0 (.agg #[.int .i64 0, .int .i64 0, .bool false]) 24 Try.underlying30 hi hz0 hz1 hz2 rfl (by decide) (.slice none 0 0) 0 [] rfl (World.ownsRow_nil _ _ _ _) B m g x rfl X.out (by unfold maxLen; omega) (by omega) (Nat.le_refl _) ?_; intro v3 w3 hown hb3)
          clear t0 t1
          rw [Nat.zero_add, List.nil_append] at hown
          have HO := Lib.hid hown
          have HB3 := Lib.hid hb3
          have E3 := Lib.hid (E.out.stays hb3)
          clear hown hb3
          have e0 := E3.out 0 _ rfl
          have e1 := E3.out 1 _ rfl
          have e2 := E3.out 2 _ rfl
          rw [hadd] at e2
          go_upto_region 6 with (at_builtin; refine wpList_append_own _ rfl _ _ 30 rfl w1.heap.size 53 i0 (.agg #[.int .i64 0, .int .i64 0, .bool false]) 3 24 Try.underlying30 hi hz0 hz1 hz2 rfl (by decide) _ _ _ rfl (HO.out.alloc _) ⟨w3.heap.size, 0, none⟩ 1 1 [.int .i64 e.cal, .int .i64 e.day, .bool true] rfl rfl (cs_new excC _ ⟨e.cal, e.day, true⟩ _ _ rfl) (excC.one ⟨e.cal, e.day, true⟩) (by unfold maxLen; omega) (by omega) (balloc HB3.out _ (Nat.le_refl _)).size ?_; intro v4 w4 hown hgrow _)
          clear e0 e1 e2
          have hb := below_app HB3.out HB3.out.size (Nat.le_refl _) HO.out hgrow
          have hx2 : w4.ownsRow w1.heap.size 53 3 v4 (m + 1) (excC.all (x ++ [e])) := by rw [Codec.all_app, Codec.all_one]; rw [show excC.cs e = [.int .i64 e.cal, .int .i64 e.day, .bool true] by rw [← hadd]; rfl]; exact hown
          obtain ⟨Aa, ca, rfl, _⟩ := ownsRow_slice hx2
          have XM := Lib.hid (show SAt excC _ _ _ _ from SAt.own hx2 (by decide))
          clear hown hgrow HO HB3 E3 hx2
          have L := Lib.hid (L.out.stays hb)
          have X := Lib.hid (X.out.stays hb)
          have T := Lib.hid (T.out.stays hb)
          have E := Lib.hid (E.out.stays hb)
          have Y := Lib.hid (Y.out.stays hb)
          have HB := Lib.hid (bthen HB.out hb r)
          clear hb
          have t0 := T.out 0 _ rfl
          have t1 := T.out 1 _ rfl
          have y0 := Y.out 0 _ rfl
          have y1 := Y.out 1 _ rfl
          go_wp2_with fail
          clear t0 t1 y0 y1
          refine (h1 _ L.out X.out).mono ?_
          rintro e5 w5 ⟨rfl, hb⟩
          have L := Lib.hid (L.out.stays hb)
          have X := Lib.hid (X.out.stays hb)
          have T := Lib.hid (T.out.stays hb)
          have E := Lib.hid (E.out.stays hb)
          have Y := Lib.hid (Y.out.stays hb)
          have XM := Lib.hid (XM.out.stays hb)
          have HB := Lib.hid (bthen HB.out hb r)
          clear hb
          have t0 := T.out 0 _ rfl
          have t1 := T.out 1 _ rfl
          have y0 := Y.out 0 _ rfl
          have y1 := Y.out 1 _ rfl
          go_wp2_with fail
          clear t0 t1 y0 y1
          refine (h2 _ _ _ L.out XM.out).mono ?_
          rintro e6 w6 ⟨rfl, hb⟩
          have L := Lib.hid (L.out.stays hb)
          have X := Lib.hid (X.out.stays hb)
          have T := Lib.hid (T.out.stays hb)
          have E := Lib.hid (E.out.stays hb)
          have Y := Lib.hid (Y.out.stays hb)
          have XM := Lib.hid (XM.out.stays hb)
          have HB := Lib.hid (bthen HB.out hb r)
          clear hb
          have e0 := E.out 0 _ rfl
          have e1 := E.out 1 _ rfl
          have e2 := E.out 2 _ rfl
          have y0 := Y.out 0 _ rfl
          have y1 := Y.out 1 _ rfl
          rw [hadd] at e2
          go_wp2_with fail
          refine (example_any _).mono ?_
          rintro e7 w7 ⟨rfl, hb⟩
          have HB := Lib.hid (bthen HB.out hb r)
          clear hb e0 e1 e2 y0 y1
          go_wp2
          go_ret
          exact ⟨rfl, HB.out⟩
      · have hs := over_add (l := l) (x := x) (i := y.cal) (d := y.day) e hcal hday (by omega) (by omega) (by omega)
        cases hadd : e.add
        · rw [hadd] at hs
          have h1 := fun w hl hx => reason_any A B n c m g l x y.cal y.day w hl hx (by omega) (by omega)
          have h2 := fun Aa ca w hl hx => reason_any A Aa n c (m + 1) ca l (x ++ [e]) y.cal y.day w hl hx (by omega) (by omega)
          rw [hr] at h1
          rw [hs] at h2
          simp only [Bool.false_eq_true, if_false] at h2
          clear hs hr hcal hday
          go_enter Try.func10, Try.ntmps10
          have t0 := T.out 0 _ rfl
          have t1 := T.out 1 _ rfl
          go_wp2_with fail
          clear t0 t1
          refine (small_yes _ _ _ _ _ _ _ hn hm).mono ?_
          rintro e w1 ⟨rfl, hb⟩
          have L := Lib.hid (L.out.stays hb)
          have X := Lib.hid (X.out.stays hb)
          have T := Lib.hid (T.out.stays hb)
          have E := Lib.hid (E.out.stays hb)
          have Y := Lib.hid (Y.out.stays hb)
          have HB := Lib.hid (bthen HB.out hb r)
          clear hb
          have t0 := T.out 0 _ rfl
          have t1 := T.out 1 _ rfl
          go_upto_region 5 with (at_builtin; refine wpList_append_sat (C := excC) rfl _ _ 30 rfl w1.heap.size 53 i0 (.agg #[.int .i64 0, .int .i64 0, .bool false]) 24 Try.underlying30 hi hz0 hz1 hz2 rfl (by decide) (.slice none 0 0) 0 [] rfl (World.ownsRow_nil _ _ _ _) B m g x rfl X.out (by unfold maxLen; omega) (by omega) (Nat.le_refl _) ?_; intro v3 w3 hown hb3)
          clear t0 t1
          rw [Nat.zero_add, List.nil_append] at hown
          have HO := Lib.hid hown
          have HB3 := Lib.hid hb3
          have E3 := Lib.hid (E.out.stays hb3)
          clear hown hb3
          have e0 := E3.out 0 _ rfl
          have e1 := E3.out 1 _ rfl
          have e2 := E3.out 2 _ rfl
          rw [hadd] at e2
          go_upto_region 6 with (at_builtin; refine wpList_append_own _ rfl _ _ 30 rfl w1.heap.size 53 i0 (.agg #[.int .i64 0, .int .i64 0, .bool false]) 3 24 Try.underlying30 hi hz0 hz1 hz2 rfl (by decide) _ _ _ rfl (HO.out.alloc _) ⟨w3.heap.size, 0, none⟩ 1 1 [.int .i64 e.cal, .int .i64 e.day, .bool false] rfl rfl (cs_new excC _ ⟨e.cal, e.day, false⟩ _ _ rfl) (excC.one ⟨e.cal, e.day, false⟩) (by unfold maxLen; omega) (by omega) (balloc HB3.out _ (Nat.le_refl _)).size ?_; intro v4 w4 hown hgrow _)
          clear e0 e1 e2
          have hb := below_app HB3.out HB3.out.size (Nat.le_refl _) HO.out hgrow
          have hx2 : w4.ownsRow w1.heap.size 53 3 v4 (m + 1) (excC.all (x ++ [e])) := by rw [Codec.all_app, Codec.all_one]; rw [show excC.cs e = [.int .i64 e.cal, .int .i64 e.day, .bool false] by rw [← hadd]; rfl]; exact hown
          obtain ⟨Aa, ca, rfl, _⟩ := ownsRow_slice hx2
          have XM := Lib.hid (show SAt excC _ _ _ _ from SAt.own hx2 (by decide))
          clear hown hgrow HO HB3 E3 hx2
          have L := Lib.hid (L.out.stays hb)
          have X := Lib.hid (X.out.stays hb)
          have T := Lib.hid (T.out.stays hb)
          have E := Lib.hid (E.out.stays hb)
          have Y := Lib.hid (Y.out.stays hb)
          have HB := Lib.hid (bthen HB.out hb r)
          clear hb
          have t0 := T.out 0 _ rfl
          have t1 := T.out 1 _ rfl
          have y0 := Y.out 0 _ rfl
          have y1 := Y.out 1 _ rfl
          go_wp2_with fail
          clear t0 t1 y0 y1
          refine (h1 _ L.out X.out).mono ?_
          rintro e5 w5 ⟨rfl, hb⟩
          have L := Lib.hid (L.out.stays hb)
          have X := Lib.hid (X.out.stays hb)
          have T := Lib.hid (T.out.stays hb)
          have E := Lib.hid (E.out.stays hb)
          have Y := Lib.hid (Y.out.stays hb)
          have XM := Lib.hid (XM.out.stays hb)
          have HB := Lib.hid (bthen HB.out hb r)
          clear hb
          have t0 := T.out 0 _ rfl
          have t1 := T.out 1 _ rfl
          have y0 := Y.out 0 _ rfl
          have y1 := Y.out 1 _ rfl
          go_wp2_with fail
          clear t0 t1 y0 y1
          refine (h2 _ _ _ L.out XM.out).mono ?_
          rintro e6 w6 ⟨rfl, hb⟩
          have L := Lib.hid (L.out.stays hb)
          have X := Lib.hid (X.out.stays hb)
          have T := Lib.hid (T.out.stays hb)
          have E := Lib.hid (E.out.stays hb)
          have Y := Lib.hid (Y.out.stays hb)
          have XM := Lib.hid (XM.out.stays hb)
          have HB := Lib.hid (bthen HB.out hb r)
          clear hb
          have e0 := E.out 0 _ rfl
          have e1 := E.out 1 _ rfl
          have e2 := E.out 2 _ rfl
          have y0 := Y.out 0 _ rfl
          have y1 := Y.out 1 _ rfl
          rw [hadd] at e2
          go_wp2_with fail
          refine (example_any _).mono ?_
          rintro e7 w7 ⟨rfl, hb⟩
          have HB := Lib.hid (bthen HB.out hb r)
          clear hb e0 e1 e2 y0 y1
          go_wp2
          go_ret
          exact ⟨rfl, HB.out⟩
        · rw [hadd] at hs
          have h1 := fun w hl hx => reason_any A B n c m g l x y.cal y.day w hl hx (by omega) (by omega)
          have h2 := fun Aa ca w hl hx => reason_any A Aa n c (m + 1) ca l (x ++ [e]) y.cal y.day w hl hx (by omega) (by omega)
          rw [hr] at h1
          rw [hs] at h2
          simp only [if_true] at h2
          clear hs hr hcal hday
          go_enter Try.func10, Try.ntmps10
          have t0 := T.out 0 _ rfl
          have t1 := T.out 1 _ rfl
          go_wp2_with fail
          clear t0 t1
          refine (small_yes _ _ _ _ _ _ _ hn hm).mono ?_
          rintro e w1 ⟨rfl, hb⟩
          have L := Lib.hid (L.out.stays hb)
          have X := Lib.hid (X.out.stays hb)
          have T := Lib.hid (T.out.stays hb)
          have E := Lib.hid (E.out.stays hb)
          have Y := Lib.hid (Y.out.stays hb)
          have HB := Lib.hid (bthen HB.out hb r)
          clear hb
          have t0 := T.out 0 _ rfl
          have t1 := T.out 1 _ rfl
          go_upto_region 5 with (at_builtin; refine wpList_append_sat (C := excC) rfl _ _ 30 rfl w1.heap.size 53 i0 (.agg #[.int .i64 0, .int .i64 0, .bool false]) 24 Try.underlying30 hi hz0 hz1 hz2 rfl (by decide) (.slice none 0 0) 0 [] rfl (World.ownsRow_nil _ _ _ _) B m g x rfl X.out (by unfold maxLen; omega) (by omega) (Nat.le_refl _) ?_; intro v3 w3 hown hb3)
          clear t0 t1
          rw [Nat.zero_add, List.nil_append] at hown
          have HO := Lib.hid hown
          have HB3 := Lib.hid hb3
          have E3 := Lib.hid (E.out.stays hb3)
          clear hown hb3
          have e0 := E3.out 0 _ rfl
          have e1 := E3.out 1 _ rfl
          have e2 := E3.out 2 _ rfl
          rw [hadd] at e2
          go_upto_region 6 with (at_builtin; refine wpList_append_own _ rfl _ _ 30 rfl w1.heap.size 53 i0 (.agg #[.int .i64 0, .int .i64 0, .bool false]) 3 24 Try.underlying30 hi hz0 hz1 hz2 rfl (by decide) _ _ _ rfl (HO.out.alloc _) ⟨w3.heap.size, 0, none⟩ 1 1 [.int .i64 e.cal, .int .i64 e.day, .bool true] rfl rfl (cs_new excC _ ⟨e.cal, e.day, true⟩ _ _ rfl) (excC.one ⟨e.cal, e.day, true⟩) (by unfold maxLen; omega) (by omega) (balloc HB3.out _ (Nat.le_refl _)).size ?_; intro v4 w4 hown hgrow _)
          clear e0 e1 e2
          have hb := below_app HB3.out HB3.out.size (Nat.le_refl _) HO.out hgrow
          have hx2 : w4.ownsRow w1.heap.size 53 3 v4 (m + 1) (excC.all (x ++ [e])) := by rw [Codec.all_app, Codec.all_one]; rw [show excC.cs e = [.int .i64 e.cal, .int .i64 e.day, .bool true] by rw [← hadd]; rfl]; exact hown
          obtain ⟨Aa, ca, rfl, _⟩ := ownsRow_slice hx2
          have XM := Lib.hid (show SAt excC _ _ _ _ from SAt.own hx2 (by decide))
          clear hown hgrow HO HB3 E3 hx2
          have L := Lib.hid (L.out.stays hb)
          have X := Lib.hid (X.out.stays hb)
          have T := Lib.hid (T.out.stays hb)
          have E := Lib.hid (E.out.stays hb)
          have Y := Lib.hid (Y.out.stays hb)
          have HB := Lib.hid (bthen HB.out hb r)
          clear hb
          have t0 := T.out 0 _ rfl
          have t1 := T.out 1 _ rfl
          have y0 := Y.out 0 _ rfl
          have y1 := Y.out 1 _ rfl
          go_wp2_with fail
          clear t0 t1 y0 y1
          refine (h1 _ L.out X.out).mono ?_
          rintro e5 w5 ⟨rfl, hb⟩
          have L := Lib.hid (L.out.stays hb)
          have X := Lib.hid (X.out.stays hb)
          have T := Lib.hid (T.out.stays hb)
          have E := Lib.hid (E.out.stays hb)
          have Y := Lib.hid (Y.out.stays hb)
          have XM := Lib.hid (XM.out.stays hb)
          have HB := Lib.hid (bthen HB.out hb r)
          clear hb
          have t0 := T.out 0 _ rfl
          have t1 := T.out 1 _ rfl
          have y0 := Y.out 0 _ rfl
          have y1 := Y.out 1 _ rfl
          go_wp2_with fail
          clear t0 t1 y0 y1
          refine (h2 _ _ _ L.out XM.out).mono ?_
          rintro e6 w6 ⟨rfl, hb⟩
          have L := Lib.hid (L.out.stays hb)
          have X := Lib.hid (X.out.stays hb)
          have T := Lib.hid (T.out.stays hb)
          have E := Lib.hid (E.out.stays hb)
          have Y := Lib.hid (Y.out.stays hb)
          have XM := Lib.hid (XM.out.stays hb)
          have HB := Lib.hid (bthen HB.out hb r)
          clear hb
          have e0 := E.out 0 _ rfl
          have e1 := E.out 1 _ rfl
          have e2 := E.out 2 _ rfl
          have y0 := Y.out 0 _ rfl
          have y1 := Y.out 1 _ rfl
          rw [hadd] at e2
          go_wp2_with fail
          refine (example_any _).mono ?_
          rintro e7 w7 ⟨rfl, hb⟩
          have HB := Lib.hid (bthen HB.out hb r)
          clear hb e0 e1 e2 y0 y1
          go_wp2
          go_ret
          exact ⟨rfl, HB.out⟩
    · have f1 : (y.cal != e.cal) = false := by rw [hcal]; simp
      have f2 : (y.day != e.day) = true := by simp; omega
      have hs := over_same (l := l) (x := x) (i := y.cal) (d := y.day) e (Or.inr (Or.inl hday))
      have h1 := fun w hl hx => reason_any A B n c m g l x y.cal y.day w hl hx (by omega) (by omega)
      have h2 := fun Aa ca w hl hx => reason_any A Aa n c (m + 1) ca l (x ++ [e]) y.cal y.day w hl hx (by omega) (by omega)
      rw [hs] at h2
      obtain ⟨v, hv⟩ : ∃ v, v = reasonI l x y.cal y.day := ⟨_, rfl⟩
      rw [← hv] at h1 h2
      clear hs hv hcal hday
      go_enter Try.func10, Try.ntmps10
      have t0 := T.out 0 _ rfl
      have t1 := T.out 1 _ rfl
      go_wp2_with fail
      clear t0 t1
      refine (small_yes _ _ _ _ _ _ _ hn hm).mono ?_
      rintro e w1 ⟨rfl, hb⟩
      have L := Lib.hid (L.out.stays hb)
      have X := Lib.hid (X.out.stays hb)
      have T := Lib.hid (T.out.stays hb)
      have E := Lib.hid (E.out.stays hb)
      have Y := Lib.hid (Y.out.stays hb)
      have HB := Lib.hid (bthen HB.out hb r)
      clear hb
      have t0 := T.out 0 _ rfl
      have t1 := T.out 1 _ rfl
      go_upto_region 5 with (at_builtin; refine wpList_append_sat (C := excC) rfl _ _ 30 rfl w1.heap.size 53 i0 (.agg #[.int .i64 0, .int .i64 0, .bool false]) 24 Try.underlying30 hi hz0 hz1 hz2 rfl (by decide) (.slice none 0 0) 0 [] rfl (World.ownsRow_nil _ _ _ _) B m g x rfl X.out (by unfold maxLen; omega) (by omega) (Nat.le_refl _) ?_; intro v3 w3 hown hb3)
      clear t0 t1
      rw [Nat.zero_add, List.nil_append] at hown
      have HO := Lib.hid hown
      have HB3 := Lib.hid hb3
      have E3 := Lib.hid (E.out.stays hb3)
      clear hown hb3
      have e0 := E3.out 0 _ rfl
      have e1 := E3.out 1 _ rfl
      have e2 := E3.out 2 _ rfl
      go_upto_region 6 with (at_builtin; refine wpList_append_own _ rfl _ _ 30 rfl w1.heap.size 53 i0 (.agg #[.int .i64 0, .int .i64 0, .bool false]) 3 24 Try.underlying30 hi hz0 hz1 hz2 rfl (by decide) _ _ _ rfl (HO.out.alloc _) ⟨w3.heap.size, 0, none⟩ 1 1 [.int .i64 e.cal, .int .i64 e.day, .bool e.add] rfl rfl (cs_new excC _ ⟨e.cal, e.day, e.add⟩ _ _ rfl) (excC.one ⟨e.cal, e.day, e.add⟩) (by unfold maxLen; omega) (by omega) (balloc HB3.out _ (Nat.le_refl _)).size ?_; intro v4 w4 hown hgrow _)
      clear e0 e1 e2
      have hb := below_app HB3.out HB3.out.size (Nat.le_refl _) HO.out hgrow
      have hx2 : w4.ownsRow w1.heap.size 53 3 v4 (m + 1) (excC.all (x ++ [e])) := by rw [Codec.all_app, Codec.all_one];  exact hown
      obtain ⟨Aa, ca, rfl, _⟩ := ownsRow_slice hx2
      have XM := Lib.hid (show SAt excC _ _ _ _ from SAt.own hx2 (by decide))
      clear hown hgrow HO HB3 E3 hx2
      have L := Lib.hid (L.out.stays hb)
      have X := Lib.hid (X.out.stays hb)
      have T := Lib.hid (T.out.stays hb)
      have E := Lib.hid (E.out.stays hb)
      have Y := Lib.hid (Y.out.stays hb)
      have HB := Lib.hid (bthen HB.out hb r)
      clear hb
      have t0 := T.out 0 _ rfl
      have t1 := T.out 1 _ rfl
      have y0 := Y.out 0 _ rfl
      have y1 := Y.out 1 _ rfl
      go_wp2_with fail
      clear t0 t1 y0 y1
      refine (h1 _ L.out X.out).mono ?_
      rintro e5 w5 ⟨rfl, hb⟩
      have L := Lib.hid (L.out.stays hb)
      have X := Lib.hid (X.out.stays hb)
      have T := Lib.hid (T.out.stays hb)
      have E := Lib.hid (E.out.stays hb)
      have Y := Lib.hid (Y.out.stays hb)
      have XM := Lib.hid (XM.out.stays hb)
      have HB := Lib.hid (bthen HB.out hb r)
      clear hb
      have t0 := T.out 0 _ rfl
      have t1 := T.out 1 _ rfl
      have y0 := Y.out 0 _ rfl
      have y1 := Y.out 1 _ rfl
      go_wp2_with fail
      clear t0 t1 y0 y1
      refine (h2 _ _ _ L.out XM.out).mono ?_
      rintro e6 w6 ⟨rfl, hb⟩
      have L := Lib.hid (L.out.stays hb)
      have X := Lib.hid (X.out.stays hb)
      have T := Lib.hid (T.out.stays hb)
      have E := Lib.hid (E.out.stays hb)
      have Y := Lib.hid (Y.out.stays hb)
      have XM := Lib.hid (XM.out.stays hb)
      have HB := Lib.hid (bthen HB.out hb r)
      clear hb
      have e0 := E.out 0 _ rfl
      have e1 := E.out 1 _ rfl
      have e2 := E.out 2 _ rfl
      have y0 := Y.out 0 _ rfl
      have y1 := Y.out 1 _ rfl
      go_wp2_with fail
      refine (example_any _).mono ?_
      rintro e7 w7 ⟨rfl, hb⟩
      have HB := Lib.hid (bthen HB.out hb r)
      clear hb e0 e1 e2 y0 y1
      go_wp2
      go_ret
      exact ⟨rfl, HB.out⟩
  · have f1 : (y.cal != e.cal) = true := by simp; omega
    have hs := over_same (l := l) (x := x) (i := y.cal) (d := y.day) e (Or.inl hcal)
    have h1 := fun w hl hx => reason_any A B n c m g l x y.cal y.day w hl hx (by omega) (by omega)
    have h2 := fun Aa ca w hl hx => reason_any A Aa n c (m + 1) ca l (x ++ [e]) y.cal y.day w hl hx (by omega) (by omega)
    rw [hs] at h2
    obtain ⟨v, hv⟩ : ∃ v, v = reasonI l x y.cal y.day := ⟨_, rfl⟩
    rw [← hv] at h1 h2
    clear hs hv hcal
    go_enter Try.func10, Try.ntmps10
    have t0 := T.out 0 _ rfl
    have t1 := T.out 1 _ rfl
    go_wp2_with fail
    clear t0 t1
    refine (small_yes _ _ _ _ _ _ _ hn hm).mono ?_
    rintro e w1 ⟨rfl, hb⟩
    have L := Lib.hid (L.out.stays hb)
    have X := Lib.hid (X.out.stays hb)
    have T := Lib.hid (T.out.stays hb)
    have E := Lib.hid (E.out.stays hb)
    have Y := Lib.hid (Y.out.stays hb)
    have HB := Lib.hid (bthen HB.out hb r)
    clear hb
    have t0 := T.out 0 _ rfl
    have t1 := T.out 1 _ rfl
    go_upto_region 5 with (at_builtin; refine wpList_append_sat (C := excC) rfl _ _ 30 rfl w1.heap.size 53 i0 (.agg #[.int .i64 0, .int .i64 0, .bool false]) 24 Try.underlying30 hi hz0 hz1 hz2 rfl (by decide) (.slice none 0 0) 0 [] rfl (World.ownsRow_nil _ _ _ _) B m g x rfl X.out (by unfold maxLen; omega) (by omega) (Nat.le_refl _) ?_; intro v3 w3 hown hb3)
    clear t0 t1
    rw [Nat.zero_add, List.nil_append] at hown
    have HO := Lib.hid hown
    have HB3 := Lib.hid hb3
    have E3 := Lib.hid (E.out.stays hb3)
    clear hown hb3
    have e0 := E3.out 0 _ rfl
    have e1 := E3.out 1 _ rfl
    have e2 := E3.out 2 _ rfl
    go_upto_region 6 with (at_builtin; refine wpList_append_own _ rfl _ _ 30 rfl w1.heap.size 53 i0 (.agg #[.int .i64 0, .int .i64 0, .bool false]) 3 24 Try.underlying30 hi hz0 hz1 hz2 rfl (by decide) _ _ _ rfl (HO.out.alloc _) ⟨w3.heap.size, 0, none⟩ 1 1 [.int .i64 e.cal, .int .i64 e.day, .bool e.add] rfl rfl (cs_new excC _ ⟨e.cal, e.day, e.add⟩ _ _ rfl) (excC.one ⟨e.cal, e.day, e.add⟩) (by unfold maxLen; omega) (by omega) (balloc HB3.out _ (Nat.le_refl _)).size ?_; intro v4 w4 hown hgrow _)
    clear e0 e1 e2
    have hb := below_app HB3.out HB3.out.size (Nat.le_refl _) HO.out hgrow
    have hx2 : w4.ownsRow w1.heap.size 53 3 v4 (m + 1) (excC.all (x ++ [e])) := by rw [Codec.all_app, Codec.all_one];  exact hown
    obtain ⟨Aa, ca, rfl, _⟩ := ownsRow_slice hx2
    have XM := Lib.hid (show SAt excC _ _ _ _ from SAt.own hx2 (by decide))
    clear hown hgrow HO HB3 E3 hx2
    have L := Lib.hid (L.out.stays hb)
    have X := Lib.hid (X.out.stays hb)
    have T := Lib.hid (T.out.stays hb)
    have E := Lib.hid (E.out.stays hb)
    have Y := Lib.hid (Y.out.stays hb)
    have HB := Lib.hid (bthen HB.out hb r)
    clear hb
    have t0 := T.out 0 _ rfl
    have t1 := T.out 1 _ rfl
    have y0 := Y.out 0 _ rfl
    have y1 := Y.out 1 _ rfl
    go_wp2_with fail
    clear t0 t1 y0 y1
    refine (h1 _ L.out X.out).mono ?_
    rintro e5 w5 ⟨rfl, hb⟩
    have L := Lib.hid (L.out.stays hb)
    have X := Lib.hid (X.out.stays hb)
    have T := Lib.hid (T.out.stays hb)
    have E := Lib.hid (E.out.stays hb)
    have Y := Lib.hid (Y.out.stays hb)
    have XM := Lib.hid (XM.out.stays hb)
    have HB := Lib.hid (bthen HB.out hb r)
    clear hb
    have t0 := T.out 0 _ rfl
    have t1 := T.out 1 _ rfl
    have y0 := Y.out 0 _ rfl
    have y1 := Y.out 1 _ rfl
    go_wp2_with fail
    clear t0 t1 y0 y1
    refine (h2 _ _ _ L.out XM.out).mono ?_
    rintro e6 w6 ⟨rfl, hb⟩
    have L := Lib.hid (L.out.stays hb)
    have X := Lib.hid (X.out.stays hb)
    have T := Lib.hid (T.out.stays hb)
    have E := Lib.hid (E.out.stays hb)
    have Y := Lib.hid (Y.out.stays hb)
    have XM := Lib.hid (XM.out.stays hb)
    have HB := Lib.hid (bthen HB.out hb r)
    clear hb
    have e0 := E.out 0 _ rfl
    have e1 := E.out 1 _ rfl
    have e2 := E.out 2 _ rfl
    have y0 := Y.out 0 _ rfl
    have y1 := Y.out 1 _ rfl
    go_wp2_with fail
    refine (example_any _).mono ?_
    rintro e7 w7 ⟨rfl, hb⟩
    have HB := Lib.hid (bthen HB.out hb r)
    clear hb e0 e1 e2 y0 y1
    go_wp2
    go_ret
    exact ⟨rfl, HB.out⟩
end Go.Proofs.Ytjmjejpfilejdaa
