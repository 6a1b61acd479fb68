/-
  Check: both.
-/
import Derived.Test.YteifjnckceeldaaSt3
import Derived.Maps.OwnSet
namespace Go.Proofs.Yteifjnckceeldaa
open Go.RowKit
open Go.Maps (Keyed)
open Go.ChangeMaps Go.WideMaps Go.WideElems

section
variable {H : Type} {P : Program}
theorem plainElem_bool_inv {e : TypeId} (he : P.underlying e = some .bool) {v : Value} {z : DataW H × List MemPlace} (h : plainElem P e v = some z) : ∃ a, v = .bool a ∧ z = (.lit (.bool a), []) := by
  unfold plainElem at h
  rw [he] at h
  cases v <;> simp at h
  exact ⟨_, rfl, h.symm⟩
/-- 'm[k]' at elements of type bool -/
theorem wpList_lookup_own_bool (w : World) {ops : Array Oper} {rest : List Oper} {o : Oper} {a : Act} {Q : Exit → Act → World → Prop}
    (hg : o.guard = none) (m x : Operand) (t : TypeId) (hop : o.op = Op.lookup t m x false)
    (k e : TypeId) (K : Keyed P k) (ht : P.underlying t = some (.map k e)) (he : P.underlying e = some .bool) (hz : (zeroValue e).run P w = .ok (.bool false) w) (b n : Nat) (D : DataW H)
    (hm : a.eval m = .map (some b)) (hown : w.ownsMap P k (plainElem P e) b n D) (key : Value) (kl : Lit) (hx : a.eval x = key) (hkey : keyOf P k key = some kl)
    (hK : ∀ c : Bool, D.atKey kl (.lit (.bool false)) = .lit (.bool c) → wpList P ops Q rest (a.put o.dst (.bool c)) w) :
    wpList P ops Q (o :: rest) a w := by
  refine wpList_plain hg fun K' hK' => ?_
  obtain ⟨v, ps, hrun, hv⟩ := hown.lookup K ht hz (plainElem_bool he false) hkey
  obtain ⟨c, rfl, hc⟩ := plainElem_bool_inv he hv
  simp only [Prod.mk.injEq] at hc
  unfold Oper.wp
  simp [execOp, hop, hm, hx, hrun, Result.andThen]
  exact hK' _ _ (hK c hc.1)
end
/-- the set of the identifiers of the first k stops, as a map reads -/
def SeenD (xs : List Stop) (k : Nat) (D : DataW Unit) : Prop := ∀ id : ByteArray, D.atKey (.string id.data.toList) (.lit (.bool false)) = .lit (.bool (seenB xs k id))
theorem SeenD.zero (xs : List Stop) : SeenD xs 0 (.map []) := fun id => by rw [seen_zero]; rfl
theorem SeenD.step {xs : List Stop} {k : Nat} {D : DataW Unit} (h : SeenD xs k D) (hD : Maps.IsMap D) : SeenD xs (k + 1) (D.put (.string (gs xs k).id.data.toList) (.lit (.bool true))) := fun id => by
  by_cases e : (gs xs k).id = id
  · subst e
    rw [Maps.atKey_put_same hD (show WideAt.IsKeyLit (.string (gs xs k).id.data.toList) from trivial), seen_same]
  · rw [Maps.atKey_put_other, seen_other e]
    · exact h id
    · intro e2
      injection e2 with e2
      apply e
      generalize (gs xs k).id = s at e2
      cases s
      cases id
      congr 1
      exact (Array.ext' e2).symm
theorem SeenD.look {xs : List Stop} {k : Nat} {D : DataW Unit} (h : SeenD xs k D) (hs : seenB xs k (gs xs k).id = dupB xs k) {c : Bool} (hat : D.atKey (.string (gs xs k).id.data.toList) (.lit (.bool false)) = .lit (.bool c)) : dupB xs k = c := by
  have := h (gs xs k).id
  rw [hat, hs] at this
  injection this with this
  injection this with this
  exact this.symm
/-- what is known of the first k stops -/
def Fine (xs : List Stop) (k : Nat) : Prop := ∀ j, j < k → errI xs j = 0
theorem Fine.step {xs : List Stop} {k : Nat} (h : Fine xs k) (h2 : errI xs k = 0) : Fine xs (k + 1) := fun j hj => by
  by_cases e : j = k
  · subst e; exact h2
  · exact h j (by omega)
theorem out_parts (s : Stop) : (outB s = true ∧ (s.zone < 0 ∨ (0 ≤ s.zone ∧ 16 ≤ s.zone) ∨ (0 ≤ s.zone ∧ s.zone < 16 ∧ s.change < 0) ∨ (0 ≤ s.zone ∧ s.zone < 16 ∧ 0 ≤ s.change ∧ 3600 < s.change))) ∨ (outB s = false ∧ 0 ≤ s.zone ∧ s.zone < 16 ∧ 0 ≤ s.change ∧ s.change ≤ 3600) := by
  unfold outB
  by_cases h : s.zone < 0 ∨ 16 ≤ s.zone ∨ s.change < 0 ∨ 3600 < s.change
  · left; rw [decide_eq_true h]; exact ⟨rfl, by omega⟩
  · right; rw [decide_eq_false h]; exact ⟨rfl, by omega⟩
theorem chk_at {xs : List Stop} {n k : Nat} {e : Int} (hl : xs.length = n) (hn : n ≤ 64) (hk : k < n) (h : Fine xs k) (he : errI xs k = e) (h0 : e ≠ 0) : chkI xs = k ∧ chkE xs = e := err_at (by omega) (by omega) he h0 h
theorem chk_end {xs : List Stop} {n : Nat} (hl : xs.length = n) (hn : n ≤ 64) (h : Fine xs n) : chkI xs = 0 ∧ chkE xs = 0 := err_none (by omega) (fun j hj => h j (by omega))
theorem chk_big {xs : List Stop} {n : Nat} (hl : xs.length = n) (hn : ¬ n ≤ 64) : chkI xs = 0 ∧ chkE xs = 5 := err_big (by omega)

set_option maxHeartbeats 1000000 in
theorem rcheck_any (A : Option Addr) (n c : Nat) (xs : List Stop) (w : World) (hx : SAt stopC w A n xs) (hn : n ≤ 1000) (hs : ∀ k, k < n → (gs xs k).id.size ≤ 9223372036854775807) :
    Calls Try.prog 13 #[.slice A n c] w fun e w' => e = .returned (.tuple #[.int .i64 (chkI xs), .int .i64 (chkE xs)]) ∧ w = w' := by
  have H := Lib.hid hx
  have HS := Lib.hid hs
  clear hx hs
  by_cases h64 : n ≤ 64
  · have h64' : ¬ (64 : Int) < (n : Int) := by omega
    go_enter Try.func13, Try.ntmps13
    go_wp2
    go_loop [4] (fun i => ∃ k : Nat, k ≤ n ∧ i = .int .i64 k ∧ Hid (Fine xs k)) (fun i => n - (intOf i).toNat)
    case atStart => exact ⟨0, by omega, rfl, Lib.hid (fun j hj => absurd hj (by omega))⟩
    case round =>
      obtain ⟨k, hk, rfl, HA⟩ := hrel
      by_cases hlt : k < n
      · have k0 : (0 : Int) ≤ (k : Int) := by omega
        have kn : (k : Int) < (n : Int) := by omega
        obtain ⟨b, o, hA, _⟩ := H.out.at_ hlt
        subst hA
        obtain ⟨c0, c1, c2, c3⟩ := stop_cells H.out hlt
        have hsz := HS.out k hlt
        have hrf := dup_rfind (xs := xs) (k := k) (by rw [H.out.1]; exact hlt)
        cases hv : validB (gs xs k).id
        · have HF := Lib.hid (chk_at H.out.1 h64 hlt HA.out (err_name hv) (by decide))
          clear hrf
          go_wp2_with (go_at_call 24; refine (ident_any _ _ hsz).mono ?_; rintro e w' ⟨rfl, rfl⟩)
          go_ret2
          exact ⟨ret_ii HF.out.1.symm HF.out.2.symm, rfl⟩
        · cases hd : dupB xs k
          · have hge : ¬ rfindI xs (gs xs k).id < (k : Int) := by rw [hd] at hrf; exact of_decide_eq_false hrf
            rcases out_parts (gs xs k) with ⟨ho, hcs⟩ | ⟨ho, z0, z1, g0, g1⟩
            · have HF := Lib.hid (chk_at H.out.1 h64 hlt HA.out (err_range hv hd ho) (by decide))
              clear hrf hd ho
              rcases hcs with z0 | ⟨z0, z1⟩ | ⟨z0, z1, g0⟩ | ⟨z0, z1, g0, g1⟩
              all_goals
                go_wp2_with (first | (go_at_call 24; refine (ident_any _ _ hsz).mono ?_; rintro e w' ⟨rfl, rfl⟩) | (go_at_call 15; refine (rfind_any _ _ _ xs (gs xs k).id _ H.out hn).mono ?_; rintro e w' ⟨rfl, rfl⟩))
                go_ret2
                exact ⟨ret_ii HF.out.1.symm HF.out.2.symm, rfl⟩
            · have HF := Lib.hid (HA.out.step (err_zero hv hd ho))
              clear hrf hd ho
              go_wp2_with (first | (go_at_call 24; refine (ident_any _ _ hsz).mono ?_; rintro e w' ⟨rfl, rfl⟩) | (go_at_call 15; refine (rfind_any _ _ _ xs (gs xs k).id _ H.out hn).mono ?_; rintro e w' ⟨rfl, rfl⟩))
              go_round
              case rel => exact ⟨k + 1, by omega, by go_num, HF⟩
              case measure => simp [intOf]; omega
          · have hge : rfindI xs (gs xs k).id < (k : Int) := by rw [hd] at hrf; exact of_decide_eq_true hrf
            have HF := Lib.hid (chk_at H.out.1 h64 hlt HA.out (err_dup hv hd) (by decide))
            clear hrf hd
            go_wp2_with (first | (go_at_call 24; refine (ident_any _ _ hsz).mono ?_; rintro e w' ⟨rfl, rfl⟩) | (go_at_call 15; refine (rfind_any _ _ _ xs (gs xs k).id _ H.out hn).mono ?_; rintro e w' ⟨rfl, rfl⟩))
            go_ret2
            exact ⟨ret_ii HF.out.1.symm HF.out.2.symm, rfl⟩
      · obtain rfl : k = n := by omega
        have hd : ¬ ((k : Int) < (k : Int)) := by omega
        have HF := Lib.hid (chk_end H.out.1 h64 HA.out)
        go_wp2
        go_ret2
        exact ⟨ret_ii HF.out.1.symm HF.out.2.symm, rfl⟩
  · have h64' : (64 : Int) < (n : Int) := by omega
    have HF := Lib.hid (chk_big H.out.1 h64)
    go_enter Try.func13, Try.ntmps13
    go_wp2
    go_ret2
    exact ⟨ret_ii HF.out.1.symm HF.out.2.symm, rfl⟩

theorem zeroBool (w : World) : (zeroValue 4).run Try.prog w = .ok (.bool false) w := by kernel_rfl
theorem keyed : Keyed Try.prog 9 := Maps.string_keyed Try.underlying9

set_option maxHeartbeats 1000000 in
theorem check_any (A : Option Addr) (n c : Nat) (xs : List Stop) (w : World) (hx : SAt stopC w A n xs) (hs : ∀ k, k < n → (gs xs k).id.size ≤ 9223372036854775807) :
    Calls Try.prog 12 #[.slice A n c] w fun e w' => e = .returned (.tuple #[.int .i64 (chkI xs), .int .i64 (chkE xs)]) ∧ Below w.heap.size w w' := by
  have H := Lib.hid hx
  have HS := Lib.hid hs
  clear hx hs
  by_cases h64 : n ≤ 64
  · have h64' : ¬ (64 : Int) < (n : Int) := by omega
    have hmm := @run_makeMap Try.prog
    go_enter Try.func12, Try.ntmps12
    go_wp2
    go_loopw [13] (fun i wr => ∃ (k : Nat) (D : DataW Unit), k ≤ n ∧ i = .int .i64 k ∧ wr.ownsMap Try.prog 9 (plainElem Try.prog 4) w.heap.size k D ∧ Hid (SeenD xs k D) ∧ Hid (Fine xs k) ∧ Below w.heap.size w wr) (fun i _ => n - (intOf i).toNat)
    case atStart => exact ⟨0, .map [], by omega, rfl, World.ownsMap_made _ _ _ _, Lib.hid (SeenD.zero xs), Lib.hid (fun j hj => absurd hj (by omega)), balloc (Below.refl _ w) _ (Nat.le_refl _)⟩
    case round =>
      obtain ⟨k, D, hk, rfl, hown, HD, HA, hbel⟩ := hrel
      by_cases hlt : k < n
      · have k0 : (0 : Int) ≤ (k : Int) := by omega
        have kn : (k : Int) < (n : Int) := by omega
        obtain ⟨b, o, hA, _⟩ := H.out.at_ hlt
        subst hA
        obtain ⟨c0, c1, c2, c3⟩ := stop_cells (H.out.stays hbel) hlt
        have hsz := HS.out k hlt
        have hbx := balloc hbel (.cells #[.string (gs xs k).id, .int .i64 (gs xs k).zone, .bool (gs xs k).free, .int .i64 (gs xs k).change] 43) (Nat.le_refl _)
        have HSE := Lib.hid (seen_dup (xs := xs) (k := k) (by rw [H.out.1]; exact hlt))
        have HM := Lib.hid (hown.alloc (.cells #[.string (gs xs k).id, .int .i64 (gs xs k).zone, .bool (gs xs k).free, .int .i64 (gs xs k).change] 43))
        have HI := Lib.hid hown.isMap
        have hkey := keyOf_string_mk Try.underlying9 (s := (gs xs k).id) (by unfold maxLen; exact hsz)
        have HBT := Lib.hid hbel
        clear hown hbel
        cases hv : validB (gs xs k).id
        · have HF := Lib.hid (chk_at H.out.1 h64 hlt HA.out (err_name hv) (by decide))
          go_wp2_with (go_at_call 23; refine (valid_any _ _ hsz).mono ?_; rintro e w' ⟨rfl, rfl⟩)
          go_ret2
          exact ⟨ret_ii HF.out.1.symm HF.out.2.symm, hbx⟩
        · cases hdd : dupB xs k
          · rcases out_parts (gs xs k) with ⟨ho, hcs⟩ | ⟨ho, z0, z1, g0, g1⟩
            · have HF := Lib.hid (chk_at H.out.1 h64 hlt HA.out (err_range hv hdd ho) (by decide))
              clear ho
              rcases hcs with z0 | ⟨z0, z1⟩ | ⟨z0, z1, g0⟩ | ⟨z0, z1, g0, g1⟩
              all_goals
                go_wp2_with (first | (go_at_call 23; refine (valid_any _ _ hsz).mono ?_; rintro e w' ⟨rfl, rfl⟩) | (at_lookup; refine wpList_lookup_own_bool _ rfl _ _ 45 rfl 9 4 keyed Try.underlying45 Try.underlying4 (zeroBool _) w.heap.size k D rfl HM.out _ _ rfl hkey ?_; intro cc hat; obtain rfl := HD.out.look HSE.out hat))
                go_ret2
                exact ⟨ret_ii HF.out.1.symm HF.out.2.symm, hbx⟩
            · have HF := Lib.hid (HA.out.step (err_zero hv hdd ho))
              clear ho
              go_wp2_with (first | (go_at_call 23; refine (valid_any _ _ hsz).mono ?_; rintro e w' ⟨rfl, rfl⟩) | (at_lookup; refine wpList_lookup_own_bool _ rfl _ _ 45 rfl 9 4 keyed Try.underlying45 Try.underlying4 (zeroBool _) w.heap.size k D rfl HM.out _ _ rfl hkey ?_; intro cc hat; obtain rfl := HD.out.look HSE.out hat) | (at_mapUpdate; refine wpList_mapUpdate_own _ rfl _ _ _ 45 rfl 9 4 keyed Try.underlying45 _ w.heap.size k D rfl HM.out (by unfold maxLen; omega) _ _ _ rfl rfl hkey (.lit (.bool true)) [] (plainElem_bool Try.underlying4 true) ?_; intro w1 hown1 hgrow1))
              have HB1 := Lib.hid (hbx.grown hgrow1 hbx.size (fun j ej => by cases ej; exact Nat.le_refl _))
              have HD1 := Lib.hid (HD.out.step HI.out)
              clear hgrow1 hbx
              go_wp2
              go_roundw
              case rel => exact ⟨k + 1, _, by omega, by go_num, hown1, HD1, HF, HB1.out⟩
              case measure => simp [intOf]; omega
          · have HF := Lib.hid (chk_at H.out.1 h64 hlt HA.out (err_dup hv hdd) (by decide))
            go_wp2_with (first | (go_at_call 23; refine (valid_any _ _ hsz).mono ?_; rintro e w' ⟨rfl, rfl⟩) | (at_lookup; refine wpList_lookup_own_bool _ rfl _ _ 45 rfl 9 4 keyed Try.underlying45 Try.underlying4 (zeroBool _) w.heap.size k D rfl HM.out _ _ rfl hkey ?_; intro cc hat; obtain rfl := HD.out.look HSE.out hat))
            go_ret2
            exact ⟨ret_ii HF.out.1.symm HF.out.2.symm, hbx⟩
      · obtain rfl : k = n := by omega
        have hd : ¬ ((k : Int) < (k : Int)) := by omega
        have HF := Lib.hid (chk_end H.out.1 h64 HA.out)
        go_wp2
        go_ret2
        exact ⟨ret_ii HF.out.1.symm HF.out.2.symm, hbel⟩
  · have h64' : (64 : Int) < (n : Int) := by omega
    have HF := Lib.hid (chk_big H.out.1 h64)
    go_enter Try.func12, Try.ntmps12
    go_wp2
    go_ret2
    exact ⟨ret_ii HF.out.1.symm HF.out.2.symm, Below.refl _ _⟩
end Go.Proofs.Yteifjnckceeldaa
