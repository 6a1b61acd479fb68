/-
  The walks of the statements on calendars. Printed by gen/calw.py.
-/
import Derived.Test.YtjmjejpfilejdaaCalX
import Derived.Test.YtjmjejpfilejdaaCalQ
import Derived.Test.YtjmjejpfilejdaaSub
namespace Go.Proofs.Ytjmjejpfilejdaa
open Go.RowKit

theorem sub_box {wo : World} {b : Nat} {vs : List Value} (h : BoxV wo b vs) (j : Nat) (v : Value) (hv : vs[j]? = some v) : ∀ y : Sub wo, y.u.cell? ⟨b, j, none⟩ = some v := fun y => h.stays y.h j v hv
theorem days_len {l : List Cal} {x : List Exc} {i p q : Int} (h : q - p ≤ 400) : (daysL l x i p q).length ≤ 1000 := by
  have h1 := act_len l x i (loI p) (hiI q + 1 - loI p).toNat
  have h2 := lo_parts p
  have h3 := hi_parts q
  unfold daysL
  omega
theorem small_yes (A B : Option Addr) (n c m g : Nat) (w : World) (hn : n ≤ 8) (hm : m ≤ 20) :
    Calls Try.prog 17 #[.agg #[.slice A n c, .slice B m g]] w fun e w' => e = .returned (.bool true) ∧ Below w.heap.size w w' := by
  go_enter Try.func17, Try.ntmps17
  go_wp2
  go_ret
  exact ⟨ret_bool (by simp; omega), balloc (Below.refl _ _) _ (Nat.le_refl _)⟩
theorem small_no (A B : Option Addr) (n c m g : Nat) (w : World) (h : ¬ (n ≤ 8 ∧ m ≤ 20)) :
    Calls Try.prog 17 #[.agg #[.slice A n c, .slice B m g]] w fun e w' => e = .returned (.bool false) ∧ Below w.heap.size w w' := by
  by_cases hn : n ≤ 8
  · have hm : ¬ m ≤ 20 := fun hm => h ⟨hn, hm⟩
    clear h
    go_enter Try.func17, Try.ntmps17
    go_wp2
    go_ret
    exact ⟨ret_bool (by simp; omega), balloc (Below.refl _ _) _ (Nat.le_refl _)⟩
  · clear h
    go_enter Try.func17, Try.ntmps17
    go_wp2
    go_ret
    exact ⟨ret_bool (by simp <;> omega), balloc (Below.refl _ _) _ (Nat.le_refl _)⟩

set_option maxHeartbeats 1000000 in
theorem checks_walk (A : Option Addr) (n c : Nat) (l : List Cal) (w : World) (hl : SAt calC w A n l) (hs : SizedC l) :
    Calls Try.prog 3 #[.slice A n c] w fun e w' => e = .returned (.bool true) ∧ Below w.heap.size w w' := by
  have r := Nat.le_refl w.heap.size
  have L := Lib.hid hl
  have HS := Lib.hid (hs.at_ hl.1)
  have HB := Lib.hid (Below.refl w.heap.size w)
  clear hl hs
  cases hsm : namedB l
  · go_enter Try.func3, Try.ntmps3
    go_wp2_with fail
    refine (named_any _ _ _ l _ L.out HS.out).mono ?_
    rintro e w' ⟨rfl, rfl⟩
    go_wp2_with fail
    refine (example_any _).mono ?_
    rintro e w1 ⟨rfl, hb⟩
    have L := Lib.hid (L.out.stays hb)
    have HB := Lib.hid (bthen HB.out hb r)
    clear hb
    go_wp2
    go_ret
    exact ⟨rfl, HB.out⟩
  · go_enter Try.func3, Try.ntmps3
    go_wp2_with fail
    refine (named_any _ _ _ l _ L.out HS.out).mono ?_
    rintro e w' ⟨rfl, rfl⟩
    go_wp2_with fail
    refine (check_any _ _ _ l _ L.out HS.out).mono ?_
    rintro e w1 ⟨rfl, hb⟩
    have L := Lib.hid (L.out.stays hb)
    have HB := Lib.hid (bthen HB.out hb r)
    clear hb
    go_wp2_with fail
    refine (rcheck_any _ _ _ l _ L.out HS.out).mono ?_
    rintro e w' ⟨rfl, q, rfl⟩
    have L := Lib.hid (L.out.drewN q)
    have HB := Lib.hid (bdrewN HB.out q)
    go_wp2_with fail
    refine (example_any _).mono ?_
    rintro e w2 ⟨rfl, hb⟩
    have L := Lib.hid (L.out.stays hb)
    have HB := Lib.hid (bthen HB.out hb r)
    clear hb
    go_wp2
    go_ret
    exact ⟨rfl, HB.out⟩

set_option maxHeartbeats 1000000 in
theorem exceptions_walk (A : Option Addr) (n c : Nat) (x : List Exc) (z : Int) (w : World) (hx : SAt excC w A n x) (hs : SizedX x) (_hz : I64 z) :
    Calls Try.prog 4 #[.slice A n c, .int .i64 z] w fun e w' => e = .returned (.bool true) ∧ Below w.heap.size w w' := by
  have r := Nat.le_refl w.heap.size
  have X := Lib.hid hx
  have HS := Lib.hid (hs.at_ hx.1)
  have HB := Lib.hid (Below.refl w.heap.size w)
  clear hx hs
  by_cases h3 : (300 : Int) < (n : Int)
  · go_enter Try.func4, Try.ntmps4
    go_wp2_with fail
    refine (example_any _).mono ?_
    rintro e w1 ⟨rfl, hb⟩
    have X := Lib.hid (X.out.stays hb)
    have HB := Lib.hid (bthen HB.out hb r)
    clear hb
    go_wp2
    go_ret
    exact ⟨rfl, HB.out⟩
  · go_enter Try.func4, Try.ntmps4
    go_wp2_with fail
    refine (checkx_any _ _ _ x z _ X.out HS.out).mono ?_
    rintro e w1 ⟨rfl, hb⟩
    have X := Lib.hid (X.out.stays hb)
    have HB := Lib.hid (bthen HB.out hb r)
    clear hb
    go_wp2_with fail
    refine (rcheckx_any _ _ _ x z _ X.out).mono ?_
    rintro e w' ⟨rfl, q, rfl⟩
    have X := Lib.hid (X.out.drewN q)
    have HB := Lib.hid (bdrewN HB.out q)
    go_wp2_with fail
    refine (example_any _).mono ?_
    rintro e w2 ⟨rfl, hb⟩
    have X := Lib.hid (X.out.stays hb)
    have HB := Lib.hid (bthen HB.out hb r)
    clear hb
    go_wp2
    go_ret
    exact ⟨rfl, HB.out⟩

set_option maxRecDepth 100000 in
set_option maxHeartbeats 4000000 in
theorem reasons_walk (A : Option Addr) (n c : Nat) (l : List Cal) (B : Option Addr) (m g : Nat) (x : List Exc) (i d : Int) (w : World) (hl : SAt calC w A n l) (_hs : SizedC l) (hx : SAt excC w B m x) (_hs2 : SizedX x) :
    Calls Try.prog 5 #[.agg #[.slice A n c, .slice B m g], .int .i64 i, .int .i64 d] w fun e w' => e = .returned (.bool true) ∧ Below w.heap.size w w' := by
  have r := Nat.le_refl w.heap.size
  have L := Lib.hid hl
  have X := Lib.hid hx
  clear hl hx
  have T := Lib.hid (BoxV.new w #[.slice A n c, .slice B m g] 35)
  have hb := balloc (Below.refl (w).heap.size (w)) (.cells #[.slice A n c, .slice B m g] 35) (Nat.le_refl _)
  have L := Lib.hid (L.out.stays hb)
  have X := Lib.hid (X.out.stays hb)
  have HB := Lib.hid hb
  clear hb
  by_cases hsm : n ≤ 8 ∧ m ≤ 20
  · obtain ⟨hn, hm⟩ := hsm
    go_enter Try.func5, Try.ntmps5
    have t0 := T.out 0 _ rfl
    have t1 := T.out 1 _ rfl
    go_wp2_with fail
    clear t0 t1
    refine (small_yes _ _ _ _ _ _ _ hn hm).mono ?_
    rintro e w1 ⟨rfl, hb⟩
    have L := Lib.hid (L.out.stays hb)
    have X := Lib.hid (X.out.stays hb)
    have T := Lib.hid (T.out.stays hb)
    have HB := Lib.hid (bthen HB.out hb r)
    clear hb
    go_upto_region 3 with fail
    have k1 : ∀ z : Sub w1, _ := fun z => calls_sub (reason_any A B n c m g l x i d z.u (L.out.stays z.h) (X.out.stays z.h) (by omega) (by omega))
    have k2 : ∀ z : Sub w1, _ := fun z => calls_sub ((rreason_any A B n c m g l x i d z.u (L.out.stays z.h) (X.out.stays z.h) (by omega) (by omega)).mono fun _ _ h => ⟨h.1, h.2 ▸ Below.refl _ _⟩)
    have k3 : ∀ z : Sub w1, _ := fun z => calls_sub (act_any A B n c m g l x i d z.u (L.out.stays z.h) (X.out.stays z.h) (by omega) (by omega))
    have k4 : ∀ z : Sub w1, _ := fun z => calls_sub ((ract_any A B n c m g l x i d z.u (L.out.stays z.h) (X.out.stays z.h) (by omega) (by omega)).mono fun _ _ h => ⟨h.1, h.2 ▸ Below.refl _ _⟩)
    have k5 : ∀ z : Sub w1, _ := fun z => calls_sub (example_any z.u)
    have c0 := sub_box T.out 0 _ rfl
    have c1 := sub_box T.out 1 _ rfl
    refine wp_region_sub (wo := w1) (by kernel_rfl) (by kernel_rfl) (Below.refl _ _) ?_
    repeat (go_big_quiet_step (first | exact k1 _ | exact k2 _ | exact k3 _ | exact k4 _ | exact k5 _))
    refine wpQuiet_nil ?_
    rintro _ ⟨⟨w2, hb2⟩, rfl⟩
    have HB := Lib.hid (bthen HB.out hb2 r)
    clear k1 k2 k3 k4 k5 c0 c1 hb2
    go_wp2
    go_ret
    exact ⟨rfl, HB.out⟩
  · go_enter Try.func5, Try.ntmps5
    have t0 := T.out 0 _ rfl
    have t1 := T.out 1 _ rfl
    go_wp2_with fail
    clear t0 t1
    refine (small_no _ _ _ _ _ _ _ hsm).mono ?_
    rintro e w1 ⟨rfl, hb⟩
    have L := Lib.hid (L.out.stays hb)
    have X := Lib.hid (X.out.stays hb)
    have T := Lib.hid (T.out.stays hb)
    have HB := Lib.hid (bthen HB.out hb r)
    clear hb
    go_wp2_with fail
    refine (example_any _).mono ?_
    rintro e w2 ⟨rfl, hb⟩
    have L := Lib.hid (L.out.stays hb)
    have X := Lib.hid (X.out.stays hb)
    have T := Lib.hid (T.out.stays hb)
    have HB := Lib.hid (bthen HB.out hb r)
    clear hb
    go_wp2
    go_ret
    exact ⟨rfl, HB.out⟩

set_option maxRecDepth 100000 in
set_option maxHeartbeats 4000000 in
theorem nexts_walk (A : Option Addr) (n c : Nat) (l : List Cal) (B : Option Addr) (m g : Nat) (x : List Exc) (i d : Int) (w : World) (hl : SAt calC w A n l) (_hs : SizedC l) (hx : SAt excC w B m x) (_hs2 : SizedX x) :
    Calls Try.prog 7 #[.agg #[.slice A n c, .slice B m g], .int .i64 i, .int .i64 d] w fun e w' => e = .returned (.bool true) ∧ Below w.heap.size w w' := by
  have r := Nat.le_refl w.heap.size
  have L := Lib.hid hl
  have X := Lib.hid hx
  clear hl hx
  have T := Lib.hid (BoxV.new w #[.slice A n c, .slice B m g] 35)
  have hb := balloc (Below.refl (w).heap.size (w)) (.cells #[.slice A n c, .slice B m g] 35) (Nat.le_refl _)
  have L := Lib.hid (L.out.stays hb)
  have X := Lib.hid (X.out.stays hb)
  have HB := Lib.hid hb
  clear hb
  by_cases hsm : n ≤ 8 ∧ m ≤ 20
  · obtain ⟨hn, hm⟩ := hsm
    go_enter Try.func7, Try.ntmps7
    have t0 := T.out 0 _ rfl
    have t1 := T.out 1 _ rfl
    go_wp2_with fail
    clear t0 t1
    refine (small_yes _ _ _ _ _ _ _ hn hm).mono ?_
    rintro e w1 ⟨rfl, hb⟩
    have L := Lib.hid (L.out.stays hb)
    have X := Lib.hid (X.out.stays hb)
    have T := Lib.hid (T.out.stays hb)
    have HB := Lib.hid (bthen HB.out hb r)
    clear hb
    have t0 := T.out 0 _ rfl
    have t1 := T.out 1 _ rfl
    go_wp2_with fail
    clear t0 t1
    refine (next_any A B n c m g l x i d _ L.out X.out (by omega) (by omega)).mono ?_
    rintro e w2 ⟨rfl, hb⟩
    have L := Lib.hid (L.out.stays hb)
    have X := Lib.hid (X.out.stays hb)
    have T := Lib.hid (T.out.stays hb)
    have HB := Lib.hid (bthen HB.out hb r)
    clear hb
    have t0 := T.out 0 _ rfl
    have t1 := T.out 1 _ rfl
    go_wp2_with fail
    clear t0 t1
    refine (rnext_any A B n c m g l x i d _ L.out X.out (by omega) (by omega)).mono ?_
    rintro e w' ⟨rfl, rfl⟩
    have t0 := T.out 0 _ rfl
    have t1 := T.out 1 _ rfl
    go_wp2_with fail
    clear t0 t1
    refine (prev_any A B n c m g l x i d _ L.out X.out (by omega) (by omega)).mono ?_
    rintro e w3 ⟨rfl, hb⟩
    have L := Lib.hid (L.out.stays hb)
    have X := Lib.hid (X.out.stays hb)
    have T := Lib.hid (T.out.stays hb)
    have HB := Lib.hid (bthen HB.out hb r)
    clear hb
    have t0 := T.out 0 _ rfl
    have t1 := T.out 1 _ rfl
    go_wp2_with fail
    clear t0 t1
    refine (rprev_any A B n c m g l x i d _ L.out X.out (by omega) (by omega)).mono ?_
    rintro e w' ⟨rfl, rfl⟩
    go_wp2_with fail
    refine (example_any _).mono ?_
    rintro e w4 ⟨rfl, hb⟩
    have L := Lib.hid (L.out.stays hb)
    have X := Lib.hid (X.out.stays hb)
    have T := Lib.hid (T.out.stays hb)
    have HB := Lib.hid (bthen HB.out hb r)
    clear hb
    go_wp2
    go_ret
    exact ⟨rfl, HB.out⟩
  · go_enter Try.func7, Try.ntmps7
    have t0 := T.out 0 _ rfl
    have t1 := T.out 1 _ rfl
    go_wp2_with fail
    clear t0 t1
    refine (small_no _ _ _ _ _ _ _ hsm).mono ?_
    rintro e w1 ⟨rfl, hb⟩
    have L := Lib.hid (L.out.stays hb)
    have X := Lib.hid (X.out.stays hb)
    have T := Lib.hid (T.out.stays hb)
    have HB := Lib.hid (bthen HB.out hb r)
    clear hb
    go_wp2_with fail
    refine (example_any _).mono ?_
    rintro e w2 ⟨rfl, hb⟩
    have L := Lib.hid (L.out.stays hb)
    have X := Lib.hid (X.out.stays hb)
    have T := Lib.hid (T.out.stays hb)
    have HB := Lib.hid (bthen HB.out hb r)
    clear hb
    go_wp2
    go_ret
    exact ⟨rfl, HB.out⟩

set_option maxRecDepth 100000 in
set_option maxHeartbeats 4000000 in
theorem days_walk (A : Option Addr) (n c : Nat) (l : List Cal) (B : Option Addr) (m g : Nat) (x : List Exc) (i p q : Int) (w : World) (hl : SAt calC w A n l) (_hs : SizedC l) (hx : SAt excC w B m x) (_hs2 : SizedX x) :
    Calls Try.prog 6 #[.agg #[.slice A n c, .slice B m g], .int .i64 i, .agg #[.int .i64 p, .int .i64 q]] w fun e w' => e = .returned (.bool true) ∧ Below w.heap.size w w' := by
  have r := Nat.le_refl w.heap.size
  have L := Lib.hid hl
  have X := Lib.hid hx
  clear hl hx
  have T := Lib.hid (BoxV.new w #[.slice A n c, .slice B m g] 35)
  have hbv := BoxV.new (w.alloc (.cells #[.slice A n c, .slice B m g] 35)) #[.int .i64 p, .int .i64 q] 41
  rw [World.size_alloc] at hbv
  have S := Lib.hid hbv
  clear hbv
  have hb := balloc (Below.refl (w).heap.size (w)) (.cells #[.slice A n c, .slice B m g] 35) (Nat.le_refl _)
  have L := Lib.hid (L.out.stays hb)
  have X := Lib.hid (X.out.stays hb)
  have HB := Lib.hid hb
  clear hb
  have hb := balloc (Below.refl (w.alloc (.cells #[.slice A n c, .slice B m g] 35)).heap.size (w.alloc (.cells #[.slice A n c, .slice B m g] 35))) (.cells #[.int .i64 p, .int .i64 q] 41) (Nat.le_refl _)
  have L := Lib.hid (L.out.stays hb)
  have X := Lib.hid (X.out.stays hb)
  have T := Lib.hid (T.out.stays hb)
  have HB := Lib.hid (bthen HB.out hb r)
  clear hb
  by_cases hsm : ¬ (n ≤ 8 ∧ m ≤ 20)
  · go_enter Try.func6, Try.ntmps6
    have t0 := T.out 0 _ rfl
    have t1 := T.out 1 _ rfl
    have s0 := S.out 0 _ rfl
    have s1 := S.out 1 _ rfl
    go_wp2_with fail
    clear t0 t1 s0 s1
    refine (small_no _ _ _ _ _ _ _ hsm).mono ?_
    rintro e w1 ⟨rfl, hb⟩
    have L := Lib.hid (L.out.stays hb)
    have X := Lib.hid (X.out.stays hb)
    have T := Lib.hid (T.out.stays hb)
    have S := Lib.hid (S.out.stays hb)
    have HB := Lib.hid (bthen HB.out hb r)
    clear hb
    have t0 := T.out 0 _ rfl
    have t1 := T.out 1 _ rfl
    have s0 := S.out 0 _ rfl
    have s1 := S.out 1 _ rfl
    go_wp2_with fail
    refine (example_any _).mono ?_
    rintro e w2 ⟨rfl, hb⟩
    have L := Lib.hid (L.out.stays hb)
    have X := Lib.hid (X.out.stays hb)
    have T := Lib.hid (T.out.stays hb)
    have S := Lib.hid (S.out.stays hb)
    have HB := Lib.hid (bthen HB.out hb r)
    clear hb
    go_wp2
    go_ret
    exact ⟨rfl, HB.out⟩
  obtain ⟨hn, hm⟩ := Decidable.not_not.1 hsm
  by_cases h1 : p < -1048576
  · go_enter Try.func6, Try.ntmps6
    have t0 := T.out 0 _ rfl
    have t1 := T.out 1 _ rfl
    have s0 := S.out 0 _ rfl
    have s1 := S.out 1 _ rfl
    go_wp2_with fail
    clear t0 t1 s0 s1
    refine (small_yes _ _ _ _ _ _ _ hn hm).mono ?_
    rintro e w1 ⟨rfl, hb⟩
    have L := Lib.hid (L.out.stays hb)
    have X := Lib.hid (X.out.stays hb)
    have T := Lib.hid (T.out.stays hb)
    have S := Lib.hid (S.out.stays hb)
    have HB := Lib.hid (bthen HB.out hb r)
    clear hb
    have s0 := S.out 0 _ rfl
    have s1 := S.out 1 _ rfl
    go_wp2_with fail
    clear s0 s1
    refine (example_any _).mono ?_
    rintro e w9 ⟨rfl, hb⟩
    have HB := Lib.hid (bthen HB.out hb r)
    clear hb
    go_wp2
    go_ret
    exact ⟨rfl, HB.out⟩
  by_cases h2 : 1048576 < q
  · go_enter Try.func6, Try.ntmps6
    have t0 := T.out 0 _ rfl
    have t1 := T.out 1 _ rfl
    have s0 := S.out 0 _ rfl
    have s1 := S.out 1 _ rfl
    go_wp2_with fail
    clear t0 t1 s0 s1
    refine (small_yes _ _ _ _ _ _ _ hn hm).mono ?_
    rintro e w1 ⟨rfl, hb⟩
    have L := Lib.hid (L.out.stays hb)
    have X := Lib.hid (X.out.stays hb)
    have T := Lib.hid (T.out.stays hb)
    have S := Lib.hid (S.out.stays hb)
    have HB := Lib.hid (bthen HB.out hb r)
    clear hb
    have s0 := S.out 0 _ rfl
    have s1 := S.out 1 _ rfl
    go_wp2_with fail
    clear s0 s1
    refine (example_any _).mono ?_
    rintro e w9 ⟨rfl, hb⟩
    have HB := Lib.hid (bthen HB.out hb r)
    clear hb
    go_wp2
    go_ret
    exact ⟨rfl, HB.out⟩
  by_cases h3 : q < p
  · go_enter Try.func6, Try.ntmps6
    have t0 := T.out 0 _ rfl
    have t1 := T.out 1 _ rfl
    have s0 := S.out 0 _ rfl
    have s1 := S.out 1 _ rfl
    go_wp2_with fail
    clear t0 t1 s0 s1
    refine (small_yes _ _ _ _ _ _ _ hn hm).mono ?_
    rintro e w1 ⟨rfl, hb⟩
    have L := Lib.hid (L.out.stays hb)
    have X := Lib.hid (X.out.stays hb)
    have T := Lib.hid (T.out.stays hb)
    have S := Lib.hid (S.out.stays hb)
    have HB := Lib.hid (bthen HB.out hb r)
    clear hb
    have s0 := S.out 0 _ rfl
    have s1 := S.out 1 _ rfl
    go_wp2_with fail
    clear s0 s1
    refine (example_any _).mono ?_
    rintro e w9 ⟨rfl, hb⟩
    have HB := Lib.hid (bthen HB.out hb r)
    clear hb
    go_wp2
    go_ret
    exact ⟨rfl, HB.out⟩
  by_cases h4 : 400 < q - p
  · go_enter Try.func6, Try.ntmps6
    have t0 := T.out 0 _ rfl
    have t1 := T.out 1 _ rfl
    have s0 := S.out 0 _ rfl
    have s1 := S.out 1 _ rfl
    go_wp2_with fail
    clear t0 t1 s0 s1
    refine (small_yes _ _ _ _ _ _ _ hn hm).mono ?_
    rintro e w1 ⟨rfl, hb⟩
    have L := Lib.hid (L.out.stays hb)
    have X := Lib.hid (X.out.stays hb)
    have T := Lib.hid (T.out.stays hb)
    have S := Lib.hid (S.out.stays hb)
    have HB := Lib.hid (bthen HB.out hb r)
    clear hb
    have s0 := S.out 0 _ rfl
    have s1 := S.out 1 _ rfl
    go_wp2_with fail
    clear s0 s1
    refine (example_any _).mono ?_
    rintro e w9 ⟨rfl, hb⟩
    have HB := Lib.hid (bthen HB.out hb r)
    clear hb
    go_wp2
    go_ret
    exact ⟨rfl, HB.out⟩
  go_enter Try.func6, Try.ntmps6
  have t0 := T.out 0 _ rfl
  have t1 := T.out 1 _ rfl
  have s0 := S.out 0 _ rfl
  have s1 := S.out 1 _ rfl
  go_wp2_with fail
  clear t0 t1 s0 s1
  refine (small_yes _ _ _ _ _ _ _ hn hm).mono ?_
  rintro e w1 ⟨rfl, hb⟩
  have L := Lib.hid (L.out.stays hb)
  have X := Lib.hid (X.out.stays hb)
  have T := Lib.hid (T.out.stays hb)
  have S := Lib.hid (S.out.stays hb)
  have HB := Lib.hid (bthen HB.out hb r)
  clear hb
  have s0 := S.out 0 _ rfl
  have s1 := S.out 1 _ rfl
  go_upto_region 3 with fail
  clear s0 s1
  have hdl := days_len (l := l) (x := x) (i := i) (p := p) (q := q) (by omega)
  have hd1 := fun w hl hx => days_any A B n c m g l x i p q w hl hx (by omega) (by omega)
  have hd2 := fun w hl hx => rdays_any A B n c m g l x i p q w hl hx (by omega) (by omega)
  obtain ⟨D, hD⟩ : ∃ D, D = daysL l x i p q := ⟨_, rfl⟩
  rw [← hD] at hdl hd1 hd2
  clear hD
  have L := Lib.hid (show SAt calC w1.drew _ _ _ from L.out)
  have X := Lib.hid (show SAt excC w1.drew _ _ _ from X.out)
  have T := Lib.hid (show BoxV w1.drew _ _ from T.out)
  have S := Lib.hid (show BoxV w1.drew _ _ from S.out)
  have HB := Lib.hid (show Below w.heap.size w w1.drew from bdrewN HB.out 1)
  have hS := And.intro (T.out 0 _ rfl) (And.intro (T.out 1 _ rfl) (And.intro (S.out 0 _ rfl) (S.out 1 _ rfl)))
  go_region_held3 (fun u => u.cell? ⟨w.heap.size, 0, none⟩ = some (.slice A n c) ∧ u.cell? ⟨w.heap.size, 1, none⟩ = some (.slice B m g) ∧ u.cell? ⟨w.heap.size + 1, 0, none⟩ = some (.int .i64 p) ∧ u.cell? ⟨w.heap.size + 1, 1, none⟩ = some (.int .i64 q)) (exact hS) (first | (go_simp; go_at_call 23; (with_reducible refine (hd1 _ L.out X.out).mono ?_); rintro e w2 ⟨A2, c2, rfl, hi, hu, hc, hb, _⟩; have L := Lib.hid (L.out.stays hb); have X := Lib.hid (X.out.stays hb); have T := Lib.hid (T.out.stays hb); have S := Lib.hid (S.out.stays hb); have HB := Lib.hid (bthen HB.out hb r); have hS := And.intro (T.out 0 _ rfl) (And.intro (T.out 1 _ rfl) (And.intro (S.out 0 _ rfl) (S.out 1 _ rfl))); (try have Q := Lib.hid (Q.out.stays hb)); have P := Lib.hid hi; clear hb hi hu hc) | (go_simp; go_at_call 24; (with_reducible refine (hd2 _ L.out X.out).mono ?_); rintro e w3 ⟨A3, c3, rfl, hi, hu, hc, hb, _⟩; have L := Lib.hid (L.out.stays hb); have X := Lib.hid (X.out.stays hb); have T := Lib.hid (T.out.stays hb); have S := Lib.hid (S.out.stays hb); have HB := Lib.hid (bthen HB.out hb r); have hS := And.intro (T.out 0 _ rfl) (And.intro (T.out 1 _ rfl) (And.intro (S.out 0 _ rfl) (S.out 1 _ rfl))); (try have P := Lib.hid (P.out.stays hb)); have Q := Lib.hid hi; clear hb hi hu hc) | (go_simp; go_at_call 22; (with_reducible refine (same_self _ _ _ _ _ _ D _ P.out Q.out hdl).mono ?_); rintro e w' ⟨rfl, q1, rfl⟩; have T := Lib.hid (T.out.drewN q1); have S := Lib.hid (S.out.drewN q1); have HB := Lib.hid (bdrewN HB.out q1); have hS := And.intro (T.out 0 _ rfl) (And.intro (T.out 1 _ rfl) (And.intro (S.out 0 _ rfl) (S.out 1 _ rfl)))) | (go_simp; go_at_call 12; (with_reducible refine (example_any _).mono ?_); rintro e w4 ⟨rfl, hb⟩; have T := Lib.hid (T.out.stays hb); have S := Lib.hid (S.out.stays hb); have HB := Lib.hid (bthen HB.out hb r); have hS := And.intro (T.out 0 _ rfl) (And.intro (T.out 1 _ rfl) (And.intro (S.out 0 _ rfl) (S.out 1 _ rfl))); clear hb))
  all_goals go_wp2
  all_goals go_ret
  all_goals exact ⟨rfl, HB.out⟩

set_option maxRecDepth 100000 in
set_option maxHeartbeats 4000000 in
theorem weeks_walk (A : Option Addr) (n c : Nat) (l : List Cal) (i d : Int) (w : World) (hl : SAt calC w A n l) (_hs : SizedC l) (_h1 : I64 i) (_h2 : I64 d) :
    Calls Try.prog 9 #[.slice A n c, .int .i64 i, .int .i64 d] w fun e w' => e = .returned (.bool true) ∧ Below w.heap.size w w' := by
  have r := Nat.le_refl w.heap.size
  have L := Lib.hid hl
  have HB := Lib.hid (Below.refl w.heap.size w)
  clear hl
  by_cases z1 : 8 < n
  · go_enter Try.func9, Try.ntmps9
    go_wp2_with fail
    refine (example_any _).mono ?_
    rintro e w1 ⟨rfl, hb⟩
    have L := Lib.hid (L.out.stays hb)
    have HB := Lib.hid (bthen HB.out hb r)
    clear hb
    go_wp2
    go_ret
    exact ⟨rfl, HB.out⟩
  by_cases z2 : i < 0
  · go_enter Try.func9, Try.ntmps9
    go_wp2_with fail
    refine (example_any _).mono ?_
    rintro e w1 ⟨rfl, hb⟩
    have L := Lib.hid (L.out.stays hb)
    have HB := Lib.hid (bthen HB.out hb r)
    clear hb
    go_wp2
    go_ret
    exact ⟨rfl, HB.out⟩
  by_cases z3 : (n : Int) ≤ i
  · go_enter Try.func9, Try.ntmps9
    go_wp2_with fail
    refine (example_any _).mono ?_
    rintro e w1 ⟨rfl, hb⟩
    have L := Lib.hid (L.out.stays hb)
    have HB := Lib.hid (bthen HB.out hb r)
    clear hb
    go_wp2
    go_ret
    exact ⟨rfl, HB.out⟩
  by_cases z4 : d < 0
  · go_enter Try.func9, Try.ntmps9
    go_wp2_with fail
    refine (example_any _).mono ?_
    rintro e w1 ⟨rfl, hb⟩
    have L := Lib.hid (L.out.stays hb)
    have HB := Lib.hid (bthen HB.out hb r)
    clear hb
    go_wp2
    go_ret
    exact ⟨rfl, HB.out⟩
  by_cases z5 : 36517 < d
  · go_enter Try.func9, Try.ntmps9
    go_wp2_with fail
    refine (example_any _).mono ?_
    rintro e w1 ⟨rfl, hb⟩
    have L := Lib.hid (L.out.stays hb)
    have HB := Lib.hid (bthen HB.out hb r)
    clear hb
    go_wp2
    go_ret
    exact ⟨rfl, HB.out⟩
  obtain ⟨a, rfl⟩ : ∃ a : Nat, i = (a : Int) := ⟨i.toNat, by omega⟩
  have ha : a < n := by omega
  have a0 : (0 : Int) ≤ (a : Int) := by omega
  have an : (a : Int) < (n : Int) := by omega
  have na : ¬ n ≤ a := by omega
  have na0 : ¬ (a : Int) < 0 := by omega
  have n8 : ¬ (8 : Int) < (n : Int) := by omega
  have d0 : ¬ d < 0 := by omega
  have d1 : ¬ 36517 < d := by omega
  clear z1 z2 z3 z4 z5
  have hc := fun d w hl => act_any A none n c 0 0 l [] (a : Int) d w hl (SAt.nil _ _) (by omega) (by omega)
  by_cases e1 : d < (gcal l a).frm
  · have h1 := hc d
    have h2 := hc (d + 7)
    rw [week_out L.out.1 ha (day_yes (by omega) (by omega)) (Or.inl e1)] at h1
    obtain ⟨s, hs⟩ : ∃ s, s = actB l [] (a : Int) (d + 7) := ⟨_, rfl⟩
    rw [← hs] at h2
    clear hs
    clear hc
    obtain ⟨b, o, hA, _⟩ := L.out.at_ ha
    subst hA
    go_enter Try.func9, Try.ntmps9
    go_wp2_with fail
    refine (h1 _ L.out).mono ?_
    rintro e w1 ⟨rfl, hb⟩
    have L := Lib.hid (L.out.stays hb)
    have HB := Lib.hid (bthen HB.out hb r)
    clear hb
    go_wp2_with fail
    refine (h2 _ L.out).mono ?_
    rintro e w2 ⟨rfl, hb⟩
    have L := Lib.hid (L.out.stays hb)
    have HB := Lib.hid (bthen HB.out hb r)
    clear hb
    obtain ⟨_, _, _, _, _, _, _, _, f8, f9⟩ := cal_cells L.out ha
    go_wp2_with fail
    clear f8 f9
    refine (example_any _).mono ?_
    rintro e w1 ⟨rfl, hb⟩
    have L := Lib.hid (L.out.stays hb)
    have HB := Lib.hid (bthen HB.out hb r)
    clear hb
    go_wp2
    go_ret
    exact ⟨rfl, HB.out⟩
  by_cases e2 : (gcal l a).til < d
  · have h1 := hc d
    have h2 := hc (d + 7)
    rw [week_out L.out.1 ha (day_yes (by omega) (by omega)) (Or.inr e2)] at h1
    obtain ⟨s, hs⟩ : ∃ s, s = actB l [] (a : Int) (d + 7) := ⟨_, rfl⟩
    rw [← hs] at h2
    clear hs
    clear hc
    obtain ⟨b, o, hA, _⟩ := L.out.at_ ha
    subst hA
    go_enter Try.func9, Try.ntmps9
    go_wp2_with fail
    refine (h1 _ L.out).mono ?_
    rintro e w1 ⟨rfl, hb⟩
    have L := Lib.hid (L.out.stays hb)
    have HB := Lib.hid (bthen HB.out hb r)
    clear hb
    go_wp2_with fail
    refine (h2 _ L.out).mono ?_
    rintro e w2 ⟨rfl, hb⟩
    have L := Lib.hid (L.out.stays hb)
    have HB := Lib.hid (bthen HB.out hb r)
    clear hb
    obtain ⟨_, _, _, _, _, _, _, _, f8, f9⟩ := cal_cells L.out ha
    go_wp2_with fail
    clear f8 f9
    refine (example_any _).mono ?_
    rintro e w1 ⟨rfl, hb⟩
    have L := Lib.hid (L.out.stays hb)
    have HB := Lib.hid (bthen HB.out hb r)
    clear hb
    go_wp2
    go_ret
    exact ⟨rfl, HB.out⟩
  by_cases e3 : (gcal l a).til < d + 7
  · have h1 := hc d
    have h2 := hc (d + 7)
    obtain ⟨s, hs⟩ : ∃ s, s = actB l [] (a : Int) (d + 7) := ⟨_, rfl⟩
    rw [← hs] at h2
    clear hs
    obtain ⟨t, ht⟩ : ∃ t, t = actB l [] (a : Int) d := ⟨_, rfl⟩
    rw [← ht] at h1
    clear ht hc
    obtain ⟨b, o, hA, _⟩ := L.out.at_ ha
    subst hA
    go_enter Try.func9, Try.ntmps9
    go_wp2_with fail
    refine (h1 _ L.out).mono ?_
    rintro e w1 ⟨rfl, hb⟩
    have L := Lib.hid (L.out.stays hb)
    have HB := Lib.hid (bthen HB.out hb r)
    clear hb
    go_wp2_with fail
    refine (h2 _ L.out).mono ?_
    rintro e w2 ⟨rfl, hb⟩
    have L := Lib.hid (L.out.stays hb)
    have HB := Lib.hid (bthen HB.out hb r)
    clear hb
    obtain ⟨_, _, _, _, _, _, _, _, f8, f9⟩ := cal_cells L.out ha
    go_wp2_with fail
    clear f8 f9
    refine (example_any _).mono ?_
    rintro e w1 ⟨rfl, hb⟩
    have L := Lib.hid (L.out.stays hb)
    have HB := Lib.hid (bthen HB.out hb r)
    clear hb
    go_wp2
    go_ret
    exact ⟨rfl, HB.out⟩
  have h1 := hc d
  have h2 := hc (d + 7)
  rw [week_same L.out.1 ha (by omega) (by omega) e1 e3] at h2
  obtain ⟨t, ht⟩ : ∃ t, t = actB l [] (a : Int) d := ⟨_, rfl⟩
  rw [← ht] at h1 h2
  clear ht hc
  obtain ⟨b, o, hA, _⟩ := L.out.at_ ha
  subst hA
  go_enter Try.func9, Try.ntmps9
  go_wp2_with fail
  refine (h1 _ L.out).mono ?_
  rintro e w1 ⟨rfl, hb⟩
  have L := Lib.hid (L.out.stays hb)
  have HB := Lib.hid (bthen HB.out hb r)
  clear hb
  go_wp2_with fail
  refine (h2 _ L.out).mono ?_
  rintro e w2 ⟨rfl, hb⟩
  have L := Lib.hid (L.out.stays hb)
  have HB := Lib.hid (bthen HB.out hb r)
  clear hb
  obtain ⟨_, _, _, _, _, _, _, _, f8, f9⟩ := cal_cells L.out ha
  go_wp2_with fail
  clear f8 f9
  refine (example_any _).mono ?_
  rintro e w1 ⟨rfl, hb⟩
  have L := Lib.hid (L.out.stays hb)
  have HB := Lib.hid (bthen HB.out hb r)
  clear hb
  go_wp2
  go_ret
  exact ⟨rfl, HB.out⟩
end Go.Proofs.Ytjmjejpfilejdaa
