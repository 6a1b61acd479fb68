/-
  WithModes, Check, Find: both. Printed by gen/rtb.py.
-/
import Derived.Test.YtokjkllfkjiaiaaDoorRtA
import Derived.Deep.CutRange
namespace Go.Proofs.YtokjkllfkjiaiaaDoor
open Go.RowKit
open Go.Maps (Keyed)
open Go.ChangeMaps Go.WideMaps Go.WideElems
open Bs (U64 oneN hasB withN)

theorem int_info : (Tryd.prog.info? 3).map (fun i => (i.zero, i.size, i.bytes)) = some (some (.int .i64 0), 1, 8) := by kernel_rfl
theorem cell_new1 (w : World) (v : Value) (t : TypeId) : ∀ j u, [v][j]? = some u → (w.alloc (.cells #[v] t)).cell? ((⟨w.heap.size, 0, none⟩ : Addr).add j) = some u := by
  intro j u hu
  rw [Addr.add_lit, Nat.zero_add, World.cell?_alloc_at _ _ _ _ rfl, ← hu]
  simp
/-- the identifiers -/
def idR (l : List Route) (k : Nat) : ByteArray := (gr l k).id
/-- the error of route k -/
def errR (l : List Route) (k : Nat) : Int := if validB (gr l k).id then if dupB (idR l) k then 6 else if knownB (gr l k).mode then 0 else 2 else 12
theorem errR_name {l : List Route} {k : Nat} (h : validB (gr l k).id = false) : errR l k = 12 := by simp [errR, h]
theorem errR_dup {l : List Route} {k : Nat} (h : validB (gr l k).id = true) (h2 : dupB (idR l) k = true) : errR l k = 6 := by simp [errR, h, h2]
theorem errR_mode {l : List Route} {k : Nat} (h : validB (gr l k).id = true) (h2 : dupB (idR l) k = false) (h3 : knownB (gr l k).mode = false) : errR l k = 2 := by simp [errR, h, h2, h3]
theorem errR_zero {l : List Route} {k : Nat} (h : validB (gr l k).id = true) (h2 : dupB (idR l) k = false) (h3 : knownB (gr l k).mode = true) : errR l k = 0 := by simp [errR, h, h2, h3]
/-- the first route with an identifier -/
def frN (l : List Route) (id : ByteArray) : Nat := firstN (fun k => decide ((gr l k).id = id)) l.length
def frI (l : List Route) (id : ByteArray) : Int := if frN l id < l.length then frN l id else 0
def frB (l : List Route) (id : ByteArray) : Bool := decide (frN l id < l.length)
theorem fr_hit {l : List Route} {id : ByteArray} {k n : Nat} (hl : l.length = n) (hk : k < n) (h : (gr l k).id = id) (hb : ∀ j, j < k → (gr l j).id ≠ id) : frI l id = k ∧ frB l id = true := by
  have : frN l id = k := firstN_eq (by omega) (by simp [h]) (fun j hj => by simp [hb j hj])
  unfold frI frB
  rw [this, if_pos (by omega), decide_eq_true (by omega)]
  exact ⟨rfl, rfl⟩
theorem fr_miss {l : List Route} {id : ByteArray} {n : Nat} (hl : l.length = n) (hb : ∀ j, j < n → (gr l j).id ≠ id) : frI l id = 0 ∧ frB l id = false := by
  have : frN l id = l.length := firstN_none (fun j hj => by simp [hb j (by omega)])
  unfold frI frB
  rw [this, if_neg (by omega), decide_eq_false (by omega)]
  exact ⟨rfl, rfl⟩
theorem fr_step {l : List Route} {id : ByteArray} {k : Nat} (h : ∀ j, j < k → (gr l j).id ≠ id) (h2 : (gr l k).id ≠ id) : ∀ j, j < k + 1 → (gr l j).id ≠ id := fun j hj => by
  by_cases e : j = k
  · subst e; exact h2
  · exact h j (by omega)
theorem zeroBool (w : World) : (zeroValue 4).run Tryd.prog w = .ok (.bool false) w := by kernel_rfl
theorem keyedS : Keyed Tryd.prog 9 := Maps.string_keyed Tryd.underlying9
/-- what is known of the identifiers' lengths -/
def SizedR (l : List Route) : Prop := ∀ c ∈ l, c.id.size ≤ 9223372036854775807
theorem SizedR.at_ {l : List Route} {n : Nat} (h : SizedR l) (hl : l.length = n) : ∀ k, k < n → (gr l k).id.size ≤ 9223372036854775807 := fun _ hk => h _ (gr_mem (by omega))
theorem bit_int (n m : Int) (w : World) (h0 : 0 ≤ m) (h1 : m < 8) : Calls Tryd.prog 32 #[.int .i64 n, .int .i64 m] w fun e w' => e = .returned (.bool (hasB (w64 n) m)) ∧ w = w' := by
  obtain ⟨k, rfl⟩ : ∃ k : Nat, m = (k : Int) := ⟨m.toNat, by omega⟩
  exact bit_any n k w (by omega)
theorem mode_nat {m : Int} (h : knownB m = true) : ∃ k : Nat, m = (k : Int) ∧ k < 8 := ⟨m.toNat, by have := known_inv h; omega, by have := known_inv h; omega⟩

set_option maxHeartbeats 1000000 in
theorem rname_any (s : ByteArray) (w : World) (hs : s.size ≤ 9223372036854775807) :
    Calls Tryd.prog 37 #[.string s] w fun e w' => e = .returned (.bool (validB s)) ∧ w = w' := by
  by_cases hr : 1 ≤ s.size ∧ s.size ≤ 32
  · obtain ⟨r1, r2⟩ := hr
    have r1' : ¬ (s.size : Int) < 1 := by omega
    have r2' : ¬ (32 : Int) < (s.size : Int) := by omega
    go_enter Tryd.func37, Tryd.ntmps37
    go_wp2
    go_loop [3] (fun i => ∃ k : Nat, k ≤ s.size ∧ i = .int .i64 k ∧ Hid (GoodTo s k)) (fun i => s.size - (intOf i).toNat)
    case atStart => exact ⟨0, by omega, rfl, Lib.hid (fun j hj => absurd hj (by omega))⟩
    case round =>
      obtain ⟨k, hk, rfl, HG⟩ := hrel
      by_cases hlt : k < s.size
      · have k0 : (0 : Int) ≤ (k : Int) := by omega
        have kn : (k : Int) < (s.size : Int) := by omega
        have HE := Lib.hid (byteN_eq hlt)
        rcases byte_parts (byteN s k) with ⟨h1, hb⟩ | ⟨h1, hb⟩ | ⟨h1, hb⟩ | ⟨h1, hb⟩ | ⟨h1, h2, hb⟩ | ⟨h1, h2, hb⟩ | ⟨h1, h2, hb⟩ | ⟨h1, h2, hb⟩ | ⟨h1, hb⟩ | ⟨h1, hb⟩ | ⟨h1, h2, hb⟩ | ⟨h1, hb⟩
        all_goals
          have HBB := Lib.hid hb
          clear hb
          rw [HE.out] at h1
          try rw [HE.out] at h2
          go_wp2 <;> first
            | (have H := valid_bad hlt HBB.out; go_ret; exact ⟨ret_bool H.symm, rfl⟩)
            | (have H := Lib.hid (HG.out.step HBB.out)
               go_round
               case rel => exact ⟨k + 1, by omega, by go_num, H⟩
               case measure => simp [intOf]; omega)
            | (exfalso; rename_i hx; simp at hx; omega)
      · obtain rfl : k = s.size := by omega
        have hd : ¬ ((s.size : Int) < (s.size : Int)) := by omega
        have HV := Lib.hid (valid_all HG.out)
        go_wp2
        go_ret
        exact ⟨ret_bool (by rw [HV.out]; simp; omega), rfl⟩
  · have HV := Lib.hid (valid_len hr)
    by_cases h0 : s.size < 1
    · have h0' : (s.size : Int) < 1 := by omega
      clear hr
      go_enter Tryd.func37, Tryd.ntmps37
      go_wp2
      go_ret
      exact ⟨ret_bool (by rw [HV.out]), rfl⟩
    · have h0' : ¬ (s.size : Int) < 1 := by omega
      have h1' : (32 : Int) < (s.size : Int) := by omega
      clear hr
      go_enter Tryd.func37, Tryd.ntmps37
      go_wp2
      go_ret
      exact ⟨ret_bool (by rw [HV.out]), rfl⟩

set_option maxHeartbeats 1000000 in
theorem find_any (A : Option Addr) (n c : Nat) (l : List Route) (id : ByteArray) (w : World) (hx : SAt routeC w A n l) (hn : n ≤ 1000) :
    Calls Tryd.prog 26 #[.slice A n c, .string id] w fun e w' => e = .returned (.tuple #[.int .i64 (frI l id), .bool (frB l id)]) ∧ Below w.heap.size w w' := by
  have H := Lib.hid hx
  clear hx
  go_enter Tryd.func26, Tryd.ntmps26
  go_wp2
  go_loopw [10] (fun i wr => ∃ k : Nat, k ≤ n ∧ i = .int .i64 k ∧ Hid (∀ j, j < k → (gr l j).id ≠ id) ∧ Below w.heap.size w wr) (fun i _ => n - (intOf i).toNat)
  case atStart => exact ⟨0, by omega, rfl, Lib.hid (fun j hj => absurd hj (by omega)), Below.refl _ _⟩
  case round =>
    obtain ⟨k, hk, rfl, HA, hbel⟩ := hrel
    by_cases hlt : k < n
    · have k0 : (0 : Int) ≤ (k : Int) := by omega
      have kn : (k : Int) < (n : Int) := by omega
      obtain ⟨b, o, hA, _⟩ := H.out.at_ hlt
      subst hA
      obtain ⟨c0, c1, c2⟩ := route_cells (H.out.stays hbel) hlt
      have hbx := balloc hbel (.cells (routeA (gr l k)) 52) (Nat.le_refl _)
      by_cases he : (gr l k).id = id
      · have hs := str_yes he
        have HF := Lib.hid (fr_hit H.out.1 hlt he HA.out)
        clear he
        go_wp2
        go_ret2
        exact ⟨ret_ib HF.out.1.symm HF.out.2.symm, hbx⟩
      · have hs := str_no he
        have HF := Lib.hid (fr_step HA.out he)
        clear he
        go_wp2
        go_roundw
        case rel => exact ⟨k + 1, by omega, by go_num, HF, hbx⟩
        case measure => simp [intOf]; omega
    · obtain rfl : k = n := by omega
      have hd : ¬ ((k : Int) < (k : Int)) := by omega
      have HF := Lib.hid (fr_miss H.out.1 HA.out)
      go_wp2
      go_ret2
      exact ⟨ret_ib HF.out.1.symm HF.out.2.symm, hbel⟩

set_option maxHeartbeats 1000000 in
theorem rfind_any (A : Option Addr) (n c : Nat) (l : List Route) (id : ByteArray) (w : World) (hx : SAt routeC w A n l) (hn : n ≤ 1000) :
    Calls Tryd.prog 27 #[.slice A n c, .string id] w fun e w' => e = .returned (.tuple #[.int .i64 (frI l id), .bool (frB l id)]) ∧ w = w' := by
  have H := Lib.hid hx
  clear hx
  go_enter Tryd.func27, Tryd.ntmps27
  go_wp2
  go_loop [6] (fun i => ∃ k : Nat, k ≤ n ∧ i = .int .i64 k ∧ Hid (∀ j, j < k → (gr l j).id ≠ id)) (fun i => n - (intOf i).toNat)
  case atStart => exact ⟨0, by omega, rfl, Lib.hid (fun j hj => absurd hj (by omega))⟩
  case round =>
    obtain ⟨k, hk, rfl, HA⟩ := hrel
    by_cases hlt : k < n
    · have k0 : (0 : Int) ≤ (k : Int) := by omega
      have kn : (k : Int) < (n : Int) := by omega
      obtain ⟨b, o, hA, _⟩ := H.out.at_ hlt
      subst hA
      obtain ⟨c0, c1, c2⟩ := route_cells H.out hlt
      by_cases he : (gr l k).id = id
      · have hs := str_yes he
        have HF := Lib.hid (fr_hit H.out.1 hlt he HA.out)
        clear he
        go_wp2
        go_ret2
        exact ⟨ret_ib HF.out.1.symm HF.out.2.symm, rfl⟩
      · have hs := str_no he
        have HF := Lib.hid (fr_step HA.out he)
        clear he
        go_wp2
        go_round
        case rel => exact ⟨k + 1, by omega, by go_num, HF⟩
        case measure => simp [intOf]; omega
    · obtain rfl : k = n := by omega
      have hd : ¬ ((k : Int) < (k : Int)) := by omega
      have HF := Lib.hid (fr_miss H.out.1 HA.out)
      go_wp2
      go_ret2
      exact ⟨ret_ib HF.out.1.symm HF.out.2.symm, rfl⟩

set_option maxHeartbeats 4000000 in
theorem check_any (A : Option Addr) (n c : Nat) (l : List Route) (w : World) (hx : SAt routeC w A n l) (hs : ∀ k, k < n → (gr l k).id.size ≤ 9223372036854775807) :
    Calls Tryd.prog 24 #[.slice A n c] w fun e w' => e = .returned (.tuple #[.int .i64 (chkI (errR l) 64 n), .int .i64 (chkE (errR l) 64 n)]) ∧ Below w.heap.size w w' := by
  have H := Lib.hid hx
  have HS := Lib.hid hs
  clear hx hs
  by_cases h64 : n ≤ 64
  · have h64' : ¬ (64 : Int) < (n : Int) := by omega
    have hmm := @run_makeMap Tryd.prog
    go_enter Tryd.func24, Tryd.ntmps24
    go_wp2
    go_loopw [13] (fun i wr => ∃ (k : Nat) (D : DataW Unit), k ≤ n ∧ i = .int .i64 k ∧ wr.ownsMap Tryd.prog 9 (plainElem Tryd.prog 4) w.heap.size k D ∧ Hid (SeenD encS (fun _ => True) (idR l) k D) ∧ Hid (Fine (errR l) k) ∧ Below w.heap.size w wr) (fun i _ => n - (intOf i).toNat)
    case atStart => exact ⟨0, .map [], by omega, rfl, World.ownsMap_made _ _ _ _, Lib.hid (SeenD.zero _ _ _), Lib.hid (Fine.zero _), balloc (Below.refl _ w) _ (Nat.le_refl _)⟩
    case round =>
      obtain ⟨k, D, hk, rfl, hown, HD, HA, hbel⟩ := hrel
      by_cases hlt : k < n
      · have k0 : (0 : Int) ≤ (k : Int) := by omega
        have kn : (k : Int) < (n : Int) := by omega
        obtain ⟨b, o, hA, _⟩ := H.out.at_ hlt
        subst hA
        obtain ⟨c0, c1, c2⟩ := route_cells (H.out.stays hbel) hlt
        have hsz := HS.out k hlt
        have hbx := balloc hbel (.cells (routeA (gr l k)) 52) (Nat.le_refl _)
        have HM := Lib.hid (hown.alloc (.cells (routeA (gr l k)) 52))
        have HI := Lib.hid hown.isMap
        have hkey := keyOf_string_mk Tryd.underlying9 (s := (gr l k).id) (by unfold maxLen; exact hsz)
        clear hown hbel
        cases hv : validB (gr l k).id
        · have HF := Lib.hid (chk_at h64 hlt HA.out (errR_name hv) (by decide))
          go_wp2_with (go_at_call 36; refine (valid_any _ _ hsz).mono ?_; rintro e w' ⟨rfl, rfl⟩)
          go_ret2
          exact ⟨ret_ii HF.out.1.symm HF.out.2.symm, hbx⟩
        · cases hdd : dupB (idR l) k
          · cases hf : knownB (gr l k).mode
            · have HF := Lib.hid (chk_at h64 hlt HA.out (errR_mode hv hdd hf) (by decide))
              go_wp2_with (first | (go_at_call 36; refine (valid_any _ _ hsz).mono ?_; rintro e w' ⟨rfl, rfl⟩) | (go_at_call 28; refine (known_any _ _).mono ?_; rintro e w' ⟨rfl, rfl⟩) | (at_lookup; refine wpList_lookup_own_bool _ rfl _ _ 60 rfl 9 4 keyedS Tryd.underlying60 Tryd.underlying4 (zeroBool _) w.heap.size k D rfl HM.out _ _ rfl hkey ?_; intro cc hat; have hcc := (HD.out.lookS hat).symm.trans hdd; subst hcc))
              go_ret2
              exact ⟨ret_ii HF.out.1.symm HF.out.2.symm, hbx⟩
            · have HF := Lib.hid (HA.out.step (errR_zero hv hdd hf))
              go_wp2_with (first | (go_at_call 36; refine (valid_any _ _ hsz).mono ?_; rintro e w' ⟨rfl, rfl⟩) | (go_at_call 28; refine (known_any _ _).mono ?_; rintro e w' ⟨rfl, rfl⟩) | (at_lookup; refine wpList_lookup_own_bool _ rfl _ _ 60 rfl 9 4 keyedS Tryd.underlying60 Tryd.underlying4 (zeroBool _) w.heap.size k D rfl HM.out _ _ rfl hkey ?_; intro cc hat; have hcc := (HD.out.lookS hat).symm.trans hdd; subst hcc) | (at_mapUpdate; refine wpList_mapUpdate_own _ rfl _ _ _ 60 rfl 9 4 keyedS Tryd.underlying60 _ w.heap.size k D rfl HM.out (by unfold maxLen; omega) _ _ _ rfl rfl hkey (.lit (.bool true)) [] (plainElem_bool Tryd.underlying4 true) ?_; intro w1 hown1 hgrow1))
              have HB1 := Lib.hid (hbx.grown hgrow1 hbx.size (fun j ej => by cases ej; exact Nat.le_refl _))
              have HD1 := Lib.hid (HD.out.stepS HI.out)
              clear hgrow1 hbx
              go_wp2
              go_roundw
              case rel => exact ⟨k + 1, _, by omega, by go_num, hown1, HD1, HF, HB1.out⟩
              case measure => simp [intOf]; omega
          · have HF := Lib.hid (chk_at h64 hlt HA.out (errR_dup hv hdd) (by decide))
            go_wp2_with (first | (go_at_call 36; refine (valid_any _ _ hsz).mono ?_; rintro e w' ⟨rfl, rfl⟩) | (at_lookup; refine wpList_lookup_own_bool _ rfl _ _ 60 rfl 9 4 keyedS Tryd.underlying60 Tryd.underlying4 (zeroBool _) w.heap.size k D rfl HM.out _ _ rfl hkey ?_; intro cc hat; have hcc := (HD.out.lookS hat).symm.trans hdd; subst hcc))
            go_ret2
            exact ⟨ret_ii HF.out.1.symm HF.out.2.symm, hbx⟩
      · obtain rfl : k = n := by omega
        have hd : ¬ ((k : Int) < (k : Int)) := by omega
        have HF := Lib.hid (chk_end h64 HA.out)
        go_wp2
        go_ret2
        exact ⟨ret_ii HF.out.1.symm HF.out.2.symm, hbel⟩
  · have h64' : (64 : Int) < (n : Int) := by omega
    have HF := Lib.hid (chk_big (err := errR l) (M := 64) (n := n) (by omega))
    go_enter Tryd.func24, Tryd.ntmps24
    go_wp2
    go_ret2
    exact ⟨ret_ii HF.out.1.symm HF.out.2.symm, Below.refl _ _⟩

set_option maxHeartbeats 4000000 in
theorem rcheck_any (A : Option Addr) (n c : Nat) (l : List Route) (w : World) (hx : SAt routeC w A n l) (hs : ∀ k, k < n → (gr l k).id.size ≤ 9223372036854775807) :
    Calls Tryd.prog 25 #[.slice A n c] w fun e w' => e = .returned (.tuple #[.int .i64 (chkI (errR l) 64 n), .int .i64 (chkE (errR l) 64 n)]) ∧ ∃ q, w' = w.drewN q := by
  have H := Lib.hid hx
  have HS := Lib.hid hs
  clear hx hs
  by_cases h64 : n ≤ 64
  · have h64' : ¬ (64 : Int) < (n : Int) := by omega
    go_enter Tryd.func25, Tryd.ntmps25
    go_wp2
    go_loopw [4] (fun i wr => ∃ k q : Nat, k ≤ n ∧ i = .int .i64 k ∧ wr = w.drewN q ∧ Hid (Fine (errR l) k)) (fun i _ => n - (intOf i).toNat)
    case atStart => exact ⟨0, 0, by omega, rfl, rfl, Lib.hid (Fine.zero _)⟩
    case round =>
      obtain ⟨k, q, hk, rfl, rfl, HA⟩ := hrel
      by_cases hlt : k < n
      · have k0 : (0 : Int) ≤ (k : Int) := by omega
        have kn : (k : Int) < (n : Int) := by omega
        obtain ⟨b, o, hA, _⟩ := H.out.at_ hlt
        subst hA
        obtain ⟨c0, c1, _⟩ := route_cells H.out hlt
        have hsz := HS.out k hlt
        cases hv : validB (gr l k).id
        · have HF := Lib.hid (chk_at h64 hlt HA.out (errR_name hv) (by decide))
          go_wp2_with (go_at_call 37; refine (rname_any _ _ hsz).mono ?_; rintro e w' ⟨rfl, rfl⟩)
          go_ret2
          exact ⟨ret_ii HF.out.1.symm HF.out.2.symm, _, rfl⟩
        · go_wp2_with (go_at_call 37; refine (rname_any _ _ hsz).mono ?_; rintro e w' ⟨rfl, rfl⟩)
          go_loopw [5] (fun i wx => ∃ j p : Nat, j ≤ k ∧ i = .int .i64 j ∧ wx = w.drewN p ∧ Hid (∀ m, m < j → idR l m ≠ idR l k)) (fun i _ => k - (intOf i).toNat)
          case atStart => exact ⟨0, q, by omega, rfl, rfl, Lib.hid (fun _ h => absurd h (by omega))⟩
          case round =>
            obtain ⟨j, p, hj, rfl, rfl, HN⟩ := hrel
            by_cases hjk : j < k
            · have j0 : (0 : Int) ≤ (j : Int) := by omega
              have jk : (j : Int) < (k : Int) := by omega
              have jn : (j : Int) < (n : Int) := by omega
              obtain ⟨d0, _⟩ := route_cells H.out (show j < n by omega)
              by_cases he : (gr l j).id = (gr l k).id
              · have hse := str_yes he
                have HF := Lib.hid (chk_at h64 hlt HA.out (errR_dup hv (dup_yes (key := idR l) hjk he)) (by decide))
                clear he
                go_wp2
                go_quiet (fail)
                go_wp2
                go_ret2
                exact ⟨ret_ii HF.out.1.symm HF.out.2.symm, _, by rw [World.drewN_drewN]⟩
              · have hse := str_no he
                have HN2 : Hid (∀ m, m < j + 1 → idR l m ≠ idR l k) := Lib.hid fun m hm => by
                  by_cases e : m = j
                  · subst e; exact he
                  · exact HN.out m (by omega)
                clear he
                go_wp2
                go_quiet (fail)
                go_wp2
                go_roundw
                case rel => exact ⟨j + 1, _, by omega, by go_num, rfl, HN2⟩
                case measure => simp [intOf]; omega
            · obtain rfl : j = k := by omega
              have hd : ¬ ((j : Int) < (j : Int)) := by omega
              have hdd := Lib.hid (dup_no HN.out)
              cases hf : knownB (gr l j).mode
              · have HF := Lib.hid (chk_at h64 hlt HA.out (errR_mode hv hdd.out hf) (by decide))
                go_wp2_with (go_at_call 31; refine (rknown_any _ _).mono ?_; rintro e w' ⟨rfl, rfl⟩)
                go_ret2
                exact ⟨ret_ii HF.out.1.symm HF.out.2.symm, _, rfl⟩
              · have HF := Lib.hid (HA.out.step (errR_zero hv hdd.out hf))
                go_wp2_with (go_at_call 31; refine (rknown_any _ _).mono ?_; rintro e w' ⟨rfl, rfl⟩)
                go_roundw
                case rel => exact ⟨j + 1, _, by omega, by go_num, rfl, HF⟩
                case measure => simp [intOf]; omega
      · obtain rfl : k = n := by omega
        have hd : ¬ ((k : Int) < (k : Int)) := by omega
        have HF := Lib.hid (chk_end h64 HA.out)
        go_wp2
        go_ret2
        exact ⟨ret_ii HF.out.1.symm HF.out.2.symm, _, rfl⟩
  · have h64' : (64 : Int) < (n : Int) := by omega
    have HF := Lib.hid (chk_big (err := errR l) (M := 64) (n := n) (by omega))
    go_enter Tryd.func25, Tryd.ntmps25
    go_wp2
    go_ret2
    exact ⟨ret_ii HF.out.1.symm HF.out.2.symm, 0, rfl⟩

set_option maxHeartbeats 4000000 in
theorem withm_any (A : Option Addr) (n c : Nat) (l : List Route) (modes : Int) (w : World) (hx : SAt routeC w A n l) (hn : n ≤ 1000) :
    Calls Tryd.prog 16 #[.slice A n c, .int .i64 modes] w fun e w' => MadeInts w (withTo l modes n) e w' := by
  obtain ⟨i0, hi, hz0, hz1, hz2⟩ := info_parts int_info
  have H := Lib.hid hx
  clear hx
  by_cases hm0 : modes = 0
  · subst hm0
    have HU : Hid (U64 255) := Lib.hid (by unfold U64; omega)
    go_enter Tryd.func16, Tryd.ntmps16
    go_wp2
    go_loopw [5, 12] (fun u i wr => ∃ k : Nat, k ≤ n ∧ i = .int .i64 k ∧ wr.ownsRow w.heap.size 3 1 u (withTo l 0 k).length ((withTo l 0 k).map (Value.int .i64)) ∧ Below w.heap.size w wr) (fun _ i _ => n - (intOf i).toNat)
    case atStart => exact ⟨0, by omega, rfl, World.ownsRow_nil _ _ _ _, Below.refl _ _⟩
    case round =>
      obtain ⟨k, hk, rfl, hown, hbel⟩ := hrel
      by_cases hlt : k < n
      · have k0 : (0 : Int) ≤ (k : Int) := by omega
        have kn : (k : Int) < (n : Int) := by omega
        obtain ⟨b, o, hA, _⟩ := H.out.at_ hlt
        subst hA
        obtain ⟨c0, c1, c2⟩ := route_cells (H.out.stays hbel) hlt
        have hil := with_len l 0 k
        have HE := Lib.hid (with_step l 0 k)
        have hbx := balloc hbel (.cells (routeA (gr l k)) 52) (Nat.le_refl _)
        have hown := hown.alloc (.cells (routeA (gr l k)) 52)
        clear hbel
        have HOW := Lib.hid hown
        have HBX := Lib.hid hbx
        clear hown hbx
        cases hb : knownB (gr l k).mode
        · rw [hb] at HE
          go_wp2_with (go_at_call 28; refine (known_any _ _).mono ?_; rintro e w' ⟨rfl, rfl⟩)
          go_roundw
          case rel => exact ⟨k + 1, by omega, by go_num, by rw [HE.out]; exact HOW.out, HBX.out⟩
          case measure => simp [intOf]; omega
        · have HKN := Lib.hid (known_inv hb)
          rw [hb] at HE
          cases hi2 : inB 0 (gr l k).mode
          · rw [hi2] at HE
            exfalso
            unfold inB at hi2
            simp at hi2
          · rw [hi2] at HE
            go_upto_region 8 with (first | (go_at_call 28; refine (known_any _ _).mono ?_; rintro e w' ⟨rfl, rfl⟩) | (go_at_call 30; refine (has_any 255 _ _ HU.out).mono ?_; rw [has_255 HKN.out.1 HKN.out.2]; rintro e w' ⟨rfl, rfl⟩))
            have hown := HOW.out
            have hbx := HBX.out
            obtain ⟨z, hz⟩ : ∃ z, z = (withTo l 0 k).length := ⟨_, rfl⟩
            rw [← hz] at hown hil
            have HZ := Lib.hid hz
            clear hz
            go_wp2_with (at_builtin; refine wpList_append_own _ rfl _ _ 36 rfl w.heap.size 3 i0 (.int .i64 0) 1 8 Tryd.underlying36 hi hz0 hz1 hz2 rfl (by decide) _ _ _ rfl (hown.alloc _) ⟨wr.heap.size + 1, 0, none⟩ 1 1 [.int .i64 k] rfl rfl (by have := cell_new1 (wr.alloc (.cells (routeA (gr l k)) 52)) (.int .i64 k) 3; rwa [World.size_alloc] at this) (by intro u hu; simp at hu; subst hu; rfl) (by unfold maxLen; omega) (by omega) (balloc hbx _ (Nat.le_refl _)).size ?_; intro v' w1 hown' hgrow _)
            have R : Below w.heap.size w w1 := below_app hbx hbx.size (Nat.le_refl _) hown hgrow
            clear hown hgrow hbx
            go_wp2
            go_roundw
            case rel => exact ⟨k + 1, by omega, by go_num, by rw [HE.out, if_pos (show (true && true) = true from rfl), List.length_append, ← HZ.out, List.map_append]; exact hown', R⟩
            case measure => simp [intOf]; omega
      · obtain rfl : k = n := by omega
        have hd : ¬ ((k : Int) < (k : Int)) := by omega
        go_wp2
        go_ret
        exact MadeInts.mk hown hbel
  · have HU := Lib.hid (w64_lt modes)
    have hw := w64_eq modes
    have hne : (modes == 0) = false := beq_eq_false_iff_ne.2 hm0
    have hin : ∀ m, inB modes m = hasB (w64 modes) m := fun m => by unfold inB; rw [decide_eq_false hm0, Bool.false_or]
    have HIN := Lib.hid hin
    clear hin hm0
    go_enter Tryd.func16, Tryd.ntmps16
    go_wp2
    go_loopw [5, 12] (fun u i wr => ∃ k : Nat, k ≤ n ∧ i = .int .i64 k ∧ wr.ownsRow w.heap.size 3 1 u (withTo l modes k).length ((withTo l modes k).map (Value.int .i64)) ∧ Below w.heap.size w wr) (fun _ i _ => n - (intOf i).toNat)
    case atStart => exact ⟨0, by omega, rfl, World.ownsRow_nil _ _ _ _, Below.refl _ _⟩
    case round =>
      obtain ⟨k, hk, rfl, hown, hbel⟩ := hrel
      by_cases hlt : k < n
      · have k0 : (0 : Int) ≤ (k : Int) := by omega
        have kn : (k : Int) < (n : Int) := by omega
        obtain ⟨b, o, hA, _⟩ := H.out.at_ hlt
        subst hA
        obtain ⟨c0, c1, c2⟩ := route_cells (H.out.stays hbel) hlt
        have hil := with_len l modes k
        have HE := Lib.hid (with_step l modes k)
        have hbx := balloc hbel (.cells (routeA (gr l k)) 52) (Nat.le_refl _)
        have hown := hown.alloc (.cells (routeA (gr l k)) 52)
        clear hbel
        have HOW := Lib.hid hown
        have HBX := Lib.hid hbx
        clear hown hbx
        cases hb : knownB (gr l k).mode
        · rw [hb] at HE
          go_wp2_with (first | (go_at_call 28; refine (known_any _ _).mono ?_; rintro e w' ⟨rfl, rfl⟩) | (go_at_call 30; refine (has_any _ _ _ HU.out).mono ?_; rintro e w' ⟨rfl, rfl⟩))
          go_roundw
          case rel => exact ⟨k + 1, by omega, by go_num, by rw [HE.out]; exact HOW.out, HBX.out⟩
          case measure => simp [intOf]; omega
        · have HKN := Lib.hid (known_inv hb)
          rw [hb] at HE
          cases hi2 : inB modes (gr l k).mode
          · rw [hi2] at HE
            rw [HIN.out] at hi2
            go_wp2_with (first | (go_at_call 28; refine (known_any _ _).mono ?_; rintro e w' ⟨rfl, rfl⟩) | (go_at_call 30; refine (has_any _ _ _ HU.out).mono ?_; rintro e w' ⟨rfl, rfl⟩))
            go_roundw
            case rel => exact ⟨k + 1, by omega, by go_num, by rw [HE.out]; exact HOW.out, HBX.out⟩
            case measure => simp [intOf]; omega
          · rw [hi2] at HE
            rw [HIN.out] at hi2
            go_upto_region 8 with (first | (go_at_call 28; refine (known_any _ _).mono ?_; rintro e w' ⟨rfl, rfl⟩) | (go_at_call 30; refine (has_any _ _ _ HU.out).mono ?_; rintro e w' ⟨rfl, rfl⟩))
            have hown := HOW.out
            have hbx := HBX.out
            obtain ⟨z, hz⟩ : ∃ z, z = (withTo l modes k).length := ⟨_, rfl⟩
            rw [← hz] at hown hil
            have HZ := Lib.hid hz
            clear hz
            go_wp2_with (at_builtin; refine wpList_append_own _ rfl _ _ 36 rfl w.heap.size 3 i0 (.int .i64 0) 1 8 Tryd.underlying36 hi hz0 hz1 hz2 rfl (by decide) _ _ _ rfl (hown.alloc _) ⟨wr.heap.size + 1, 0, none⟩ 1 1 [.int .i64 k] rfl rfl (by have := cell_new1 (wr.alloc (.cells (routeA (gr l k)) 52)) (.int .i64 k) 3; rwa [World.size_alloc] at this) (by intro u hu; simp at hu; subst hu; rfl) (by unfold maxLen; omega) (by omega) (balloc hbx _ (Nat.le_refl _)).size ?_; intro v' w1 hown' hgrow _)
            have R : Below w.heap.size w w1 := below_app hbx hbx.size (Nat.le_refl _) hown hgrow
            clear hown hgrow hbx
            go_wp2
            go_roundw
            case rel => exact ⟨k + 1, by omega, by go_num, by rw [HE.out, if_pos (show (true && true) = true from rfl), List.length_append, ← HZ.out, List.map_append]; exact hown', R⟩
            case measure => simp [intOf]; omega
      · obtain rfl : k = n := by omega
        have hd : ¬ ((k : Int) < (k : Int)) := by omega
        go_wp2
        go_ret
        exact MadeInts.mk hown hbel

set_option maxHeartbeats 4000000 in
theorem rwithm_any (A : Option Addr) (n c : Nat) (l : List Route) (modes : Int) (w : World) (hx : SAt routeC w A n l) (hn : n ≤ 1000) :
    Calls Tryd.prog 17 #[.slice A n c, .int .i64 modes] w fun e w' => MadeInts w (withTo l modes n) e w' := by
  obtain ⟨i0, hi, hz0, hz1, hz2⟩ := info_parts int_info
  have H := Lib.hid hx
  clear hx
  by_cases hm0 : modes = 0
  · subst hm0
    go_enter Tryd.func17, Tryd.ntmps17
    go_wp2
    go_loopw [5, 6] (fun u i wr => ∃ k : Nat, k ≤ n ∧ i = .int .i64 k ∧ wr.ownsRow w.heap.size 3 1 u (withTo l 0 k).length ((withTo l 0 k).map (Value.int .i64)) ∧ Below w.heap.size w wr) (fun _ i _ => n - (intOf i).toNat)
    case atStart => exact ⟨0, by omega, rfl, World.ownsRow_nil _ _ _ _, Below.refl _ _⟩
    case round =>
      obtain ⟨k, hk, rfl, hown, hbel⟩ := hrel
      by_cases hlt : k < n
      · have k0 : (0 : Int) ≤ (k : Int) := by omega
        have kn : (k : Int) < (n : Int) := by omega
        obtain ⟨b, o, hA, _⟩ := H.out.at_ hlt
        subst hA
        obtain ⟨c0, c1, c2⟩ := route_cells (H.out.stays hbel) hlt
        have hil := with_len l 0 k
        have HE := Lib.hid (with_step l 0 k)
        have hbx := hbel
        clear hbel
        have HOW := Lib.hid hown
        have HBX := Lib.hid hbx
        clear hown hbx
        cases hb : knownB (gr l k).mode
        · rw [hb] at HE
          go_wp2_with (go_at_call 31; refine (rknown_any _ _).mono ?_; rintro e w' ⟨rfl, rfl⟩)
          go_roundw
          case rel => exact ⟨k + 1, by omega, by go_num, by rw [HE.out]; exact HOW.out, HBX.out⟩
          case measure => simp [intOf]; omega
        · have HKN := Lib.hid (known_inv hb)
          rw [hb] at HE
          cases hi2 : inB 0 (gr l k).mode
          · rw [hi2] at HE
            exfalso
            unfold inB at hi2
            simp at hi2
          · rw [hi2] at HE
            go_upto_region 6 with (go_at_call 31; refine (rknown_any _ _).mono ?_; rintro e w' ⟨rfl, rfl⟩)
            have hown := HOW.out
            have hbx := HBX.out
            obtain ⟨z, hz⟩ : ∃ z, z = (withTo l 0 k).length := ⟨_, rfl⟩
            rw [← hz] at hown hil
            have HZ := Lib.hid hz
            clear hz
            go_wp2_with (at_builtin; refine wpList_append_own _ rfl _ _ 36 rfl w.heap.size 3 i0 (.int .i64 0) 1 8 Tryd.underlying36 hi hz0 hz1 hz2 rfl (by decide) _ _ _ rfl (hown.alloc _) ⟨wr.heap.size, 0, none⟩ 1 1 [.int .i64 k] rfl rfl (cell_new1 _ _ _) (by intro u hu; simp at hu; subst hu; rfl) (by unfold maxLen; omega) (by omega) (balloc hbx _ (Nat.le_refl _)).size ?_; intro v' w1 hown' hgrow _)
            have R : Below w.heap.size w w1 := below_app hbx hbx.size (Nat.le_refl _) hown hgrow
            clear hown hgrow hbx
            go_wp2
            go_roundw
            case rel => exact ⟨k + 1, by omega, by go_num, by rw [HE.out, if_pos (show (true && true) = true from rfl), List.length_append, ← HZ.out, List.map_append]; exact hown', R⟩
            case measure => simp [intOf]; omega
      · obtain rfl : k = n := by omega
        have hd : ¬ ((k : Int) < (k : Int)) := by omega
        go_wp2
        go_ret
        exact MadeInts.mk hown hbel
  · have hne : (modes == 0) = false := beq_eq_false_iff_ne.2 hm0
    have hin : ∀ m, inB modes m = hasB (w64 modes) m := fun m => by unfold inB; rw [decide_eq_false hm0, Bool.false_or]
    have HIN := Lib.hid hin
    clear hin hm0
    go_enter Tryd.func17, Tryd.ntmps17
    go_wp2
    go_loopw [5, 6] (fun u i wr => ∃ k : Nat, k ≤ n ∧ i = .int .i64 k ∧ wr.ownsRow w.heap.size 3 1 u (withTo l modes k).length ((withTo l modes k).map (Value.int .i64)) ∧ Below w.heap.size w wr) (fun _ i _ => n - (intOf i).toNat)
    case atStart => exact ⟨0, by omega, rfl, World.ownsRow_nil _ _ _ _, Below.refl _ _⟩
    case round =>
      obtain ⟨k, hk, rfl, hown, hbel⟩ := hrel
      by_cases hlt : k < n
      · have k0 : (0 : Int) ≤ (k : Int) := by omega
        have kn : (k : Int) < (n : Int) := by omega
        obtain ⟨b, o, hA, _⟩ := H.out.at_ hlt
        subst hA
        obtain ⟨c0, c1, c2⟩ := route_cells (H.out.stays hbel) hlt
        have hil := with_len l modes k
        have HE := Lib.hid (with_step l modes k)
        have hbx := hbel
        clear hbel
        have HOW := Lib.hid hown
        have HBX := Lib.hid hbx
        clear hown hbx
        cases hb : knownB (gr l k).mode
        · rw [hb] at HE
          go_wp2_with (first | (go_at_call 31; refine (rknown_any _ _).mono ?_; rintro e w' ⟨rfl, rfl⟩) | (go_at_call 32; refine (bit_int _ _ _ HKN.out.1 HKN.out.2).mono ?_; rintro e w' ⟨rfl, rfl⟩))
          go_roundw
          case rel => exact ⟨k + 1, by omega, by go_num, by rw [HE.out]; exact HOW.out, HBX.out⟩
          case measure => simp [intOf]; omega
        · have HKN := Lib.hid (known_inv hb)
          rw [hb] at HE
          cases hi2 : inB modes (gr l k).mode
          · rw [hi2] at HE
            rw [HIN.out] at hi2
            go_wp2_with (first | (go_at_call 31; refine (rknown_any _ _).mono ?_; rintro e w' ⟨rfl, rfl⟩) | (go_at_call 32; refine (bit_int _ _ _ HKN.out.1 HKN.out.2).mono ?_; rintro e w' ⟨rfl, rfl⟩))
            go_roundw
            case rel => exact ⟨k + 1, by omega, by go_num, by rw [HE.out]; exact HOW.out, HBX.out⟩
            case measure => simp [intOf]; omega
          · rw [hi2] at HE
            rw [HIN.out] at hi2
            go_upto_region 6 with (first | (go_at_call 31; refine (rknown_any _ _).mono ?_; rintro e w' ⟨rfl, rfl⟩) | (go_at_call 32; refine (bit_int _ _ _ HKN.out.1 HKN.out.2).mono ?_; rintro e w' ⟨rfl, rfl⟩))
            have hown := HOW.out
            have hbx := HBX.out
            obtain ⟨z, hz⟩ : ∃ z, z = (withTo l modes k).length := ⟨_, rfl⟩
            rw [← hz] at hown hil
            have HZ := Lib.hid hz
            clear hz
            go_wp2_with (at_builtin; refine wpList_append_own _ rfl _ _ 36 rfl w.heap.size 3 i0 (.int .i64 0) 1 8 Tryd.underlying36 hi hz0 hz1 hz2 rfl (by decide) _ _ _ rfl (hown.alloc _) ⟨wr.heap.size, 0, none⟩ 1 1 [.int .i64 k] rfl rfl (cell_new1 _ _ _) (by intro u hu; simp at hu; subst hu; rfl) (by unfold maxLen; omega) (by omega) (balloc hbx _ (Nat.le_refl _)).size ?_; intro v' w1 hown' hgrow _)
            have R : Below w.heap.size w w1 := below_app hbx hbx.size (Nat.le_refl _) hown hgrow
            clear hown hgrow hbx
            go_wp2
            go_roundw
            case rel => exact ⟨k + 1, by omega, by go_num, by rw [HE.out, if_pos (show (true && true) = true from rfl), List.length_append, ← HZ.out, List.map_append]; exact hown', R⟩
            case measure => simp [intOf]; omega
      · obtain rfl : k = n := by omega
        have hd : ¬ ((k : Int) < (k : Int)) := by omega
        go_wp2
        go_ret
        exact MadeInts.mk hown hbel
end Go.Proofs.YtokjkllfkjiaiaaDoor
