/-
  The walk of HeapSorts. Printed by gen/hpw6.py.
-/
import Derived.Test.YtndbdgadijbhnaaHw2
import Derived.Test.YtndbdgadijbhnaaSub
namespace Go.Proofs.Ytndbdgadijbhnaa
open Go.RowKit

section
variable {Q0 : Program}
theorem wpList_append_own_at {w : World} {ops : Array Oper} {rest : List Oper} {o : Oper} {a : Act} {Q : Exit → Act → World → Prop} (hgd : o.guard = none) (s x : Operand) (t : TypeId)
    (ho : o.op = .call { callee := .builtin .append, args := #[s, x], argTypes := #[t, t] })
    (base : Nat) (e : TypeId) (i : TypeInfo) (z : Value) (size bytes : Nat) (ht : Q0.underlying t = some (.slice e)) (hi : Q0.info? e = some i) (hz : i.zero = some z)
    (hsize : i.size = size) (hby : i.bytes = bytes) (hzs : z.cells.size = size) (hsz : 0 < size)
    (v : Value) (n : Nat) (xs : List Value) (hs : a.eval s = v) (hown : w.ownsRow base e size v n xs)
    (ad : Addr) (m c : Nat) (news : List Value) (hx : a.eval x = .slice (some ad) m c) (hl : news.length = m * size) (hnews : ∀ j u, news[j]? = some u → w.cell? (ad.add j) = some u) (h1 : ∀ u ∈ news, u.oneCell' = true)
    (h63 : n + m ≤ maxLen) (hbytes : (n + m) * bytes ≤ 140737488355328) (hbase : base ≤ w.heap.size)
    (h : ∀ v' w', w'.ownsRow base e size v' (n + m) (xs ++ news) → w.grownBy w' v.ownBlock → (v'.ownBlock = v.ownBlock ∨ ∀ k, v'.ownBlock = some k → w.heap.size ≤ k) → wpList Q0 ops Q rest (a.put o.dst v') w') : wpList Q0 ops Q (o :: rest) a w :=
  wpList_plain hgd fun K hK => by
    obtain ⟨v', w', hr, h2, h3, h4⟩ := run_append_own_at (P := Q0) w base t o.type e i z size bytes ht hi hz hsize hby hzs hsz v n xs hown ad m c news hl hnews h1 h63 hbytes hbase
    unfold Oper.wp execOp
    simp only [ho, resolve, invoke, builtin, Sem.run_bind, Sem.run_pure, Result.andThen_ok, List.map_toArray, List.map_cons, List.map_nil, hs, hx, hr]
    exact hK _ _ (h v' w' h2 h3 h4)
end
/-- the two rows lie in different blocks -/
def Apart (v1 v2 : Value) : Prop := ∀ q, v1.ownBlock = some q → v2.ownBlock ≠ some q
theorem Apart.symm {v1 v2 : Value} (h : Apart v1 v2) : Apart v2 v1 := fun q h1 h2 => h q h2 h1
theorem Apart.ne {v1 v2 : Value} (h : Apart v1 v2) : v2.ownBlock = none ∨ v2.ownBlock ≠ v1.ownBlock := by
  cases e : v2.ownBlock with
  | none => exact .inl rfl
  | some q => exact .inr fun e2 => h q e2.symm e
theorem Apart.app {v1 v2 v8 : Value} {S : Nat} (h : Apart v1 v2) (hr : v8.ownBlock = v1.ownBlock ∨ ∀ k, v8.ownBlock = some k → S ≤ k) (hc : ∀ q, v2.ownBlock = some q → q < S) : Apart v8 v2 := by
  intro q h1 h2
  rcases hr with hr | hr
  · exact h q (hr.symm.trans h1) h2
  · have := hr q h1
    have := hc q h2
    omega
theorem own_other {w w' : World} {base e size n : Nat} {v v1 : Value} {xs : List Value} {tmp : Obj} (h : w.ownsRow base e size v n xs) (hg : (w.alloc tmp).grownBy w' v1.ownBlock) (ha : Apart v1 v) : w'.ownsRow base e size v n xs := (h.alloc tmp).kept hg ha.ne
/-- the pairs of keys and places -/
def mkL (ks : List Int) (k : Nat) : List Pair := (List.range k).map fun j => ⟨gi ks j, (j : Int)⟩
theorem mkL_len (ks : List Int) (k : Nat) : (mkL ks k).length = k := by simp [mkL]
theorem mkL_succ (ks : List Int) (k : Nat) : mkL ks (k + 1) = mkL ks k ++ [⟨gi ks k, (k : Int)⟩] := by simp [mkL, List.range_succ]
theorem mkL_mark (ks : List Int) (n : Nat) : ∀ a ∈ tag 0 (mkL ks n), a.num = a.p.mark := by
  induction n with
  | zero => intro a ha; simp [mkL, tag] at ha
  | succ n ih =>
    intro a ha
    rw [mkL_succ, tag_app, mkL_len, Nat.zero_add] at ha
    rcases List.mem_append.1 ha with ha | ha
    · exact ih a ha
    · rw [List.mem_singleton.1 ha]
theorem sorts_law {lt : Pair → Pair → Bool} {f : Pair → Int} (hk : Keyed lt f) (ks : List Int) (n i : Nat) (hi0 : 0 < i) (hi : i < n) :
    lt (gp (msortL lt n (mkL ks n)) i) (gp (msortL lt n (mkL ks n)) (i - 1)) = false ∧ (lt (gp (msortL lt n (mkL ks n)) (i - 1)) (gp (msortL lt n (mkL ks n)) i) = false → ¬ (gp (msortL lt n (mkL ks n)) i).mark < (gp (msortL lt n (mkL ks n)) (i - 1)).mark) := by
  have hl : (tag 0 (mkL ks n)).length = n := by rw [tag_len, mkL_len]
  have hs := msort_srt hk n (tag 0 (mkL ks n)) (by omega) (tag_inc 0 _)
  have hm : ∀ a ∈ msortL (ltN lt) n (tag 0 (mkL ks n)), a.num = a.p.mark := fun a ha => mkL_mark ks n a ((msortL_perm _ _ _).subset ha)
  have hl2 : (msortL (ltN lt) n (tag 0 (mkL ks n))).length = n := by rw [msortL_len, hl]
  have e : msortL lt n (mkL ks n) = (msortL (ltN lt) n (tag 0 (mkL ks n))).map Node.p := by rw [← msort_map, tag_map]
  rw [e, gp_map hl2 hi, gp_map hl2 (show i - 1 < n by omega)]
  have h := List.pairwise_iff_getElem.1 hs (i - 1) i (by omega) (by omega) (by omega)
  have e1 : gn (msortL (ltN lt) n (tag 0 (mkL ks n))) (i - 1) = (msortL (ltN lt) n (tag 0 (mkL ks n)))[i - 1]'(by omega) := nodeC.g_eq (by omega)
  have e2 : gn (msortL (ltN lt) n (tag 0 (mkL ks n))) i = (msortL (ltN lt) n (tag 0 (mkL ks n)))[i]'(by omega) := nodeC.g_eq (by omega)
  rw [← e1, ← e2] at h
  have m1 := hm _ (gn_mem (k := i - 1) (by omega))
  have m2 := hm _ (gn_mem (k := i) (by omega))
  have h' := (le_iff hk _ _).1 h
  rw [hk, hk]
  refine ⟨decide_eq_false (by omega), fun h3 => ?_⟩
  have := of_decide_eq_false h3
  omega
theorem sub_pair {wo : World} {b o n k : Nat} {xs : List Pair} (h : SAt pairC wo (some ⟨b, o, none⟩) n xs) (hk : k < n) :
    (∀ x : Sub wo, x.u.cell? ⟨b, o + k * 2, none⟩ = some (.int .i64 (gp xs k).key)) ∧ (∀ x : Sub wo, x.u.cell? ⟨b, o + k * 2 + 1, none⟩ = some (.int .i64 (gp xs k).mark)) :=
  ⟨fun x => (pair_cells (h.stays x.h) hk).1, fun x => (pair_cells (h.stays x.h) hk).2⟩

set_option maxRecDepth 100000 in
set_option maxHeartbeats 800000 in
theorem sorts_walk (m : Int) (A : Option Addr) (n c : Nat) (ks : List Int) (w : World) (_h : I64 m) (hx : IntsAt w A n ks) :
    Calls Try.prog 4 #[.int .i64 m, .slice A n c] w fun e w' => e = .returned (.bool true) ∧ Below w.heap.size w w' := by
  obtain ⟨i0, hi, hz0, hz1, hz2⟩ := info_parts pair_info
  have HX := Lib.hid hx
  clear hx
  by_cases hm0 : m < 0
  · go_enter Try.func4, Try.ntmps4
    go_wp2_with fail
    refine (example_any _).mono ?_
    rintro e w2 ⟨rfl, hb2⟩
    have HB2 := Lib.hid hb2
    clear hb2
    go_wp2
    go_ret
    exact ⟨rfl, HB2.out⟩
  by_cases hm2 : 2 < m
  · go_enter Try.func4, Try.ntmps4
    go_wp2_with fail
    refine (example_any _).mono ?_
    rintro e w2 ⟨rfl, hb2⟩
    have HB2 := Lib.hid hb2
    clear hb2
    go_wp2
    go_ret
    exact ⟨rfl, HB2.out⟩
  by_cases h200 : (200 : Int) < (n : Int)
  · go_enter Try.func4, Try.ntmps4
    go_wp2_with fail
    refine (example_any _).mono ?_
    rintro e w2 ⟨rfl, hb2⟩
    have HB2 := Lib.hid hb2
    clear hb2
    go_wp2
    go_ret
    exact ⟨rfl, HB2.out⟩
  have hn200 : n ≤ 200 := by omega
  obtain ⟨f, hf⟩ := keyed_any (m := m) (by omega) (by omega)
  have HF := Lib.hid hf
  clear hf
  go_enter Try.func4, Try.ntmps4
  go_wp2
  go_loopw [5, 6, 25] (fun la ca i wr => ∃ k : Nat, k ≤ n ∧ i = .int .i64 k ∧ Hid (wr.ownsRow w.heap.size 28 pairC.sz la k (pairC.all (mkL ks k))) ∧ Hid (wr.ownsRow w.heap.size 28 pairC.sz ca k (pairC.all (mkL ks k))) ∧ Hid (Apart la ca) ∧ Hid (Below w.heap.size w wr)) (fun _ _ i _ => n - (intOf i).toNat)
  case atStart => exact ⟨0, by omega, rfl, Lib.hid (World.ownsRow_nil _ _ _ _), Lib.hid (World.ownsRow_nil _ _ _ _), Lib.hid (by intro q h; simp [Value.ownBlock] at h), Lib.hid (Below.refl _ _)⟩
  case round =>
    obtain ⟨k, hkn, rfl, HL, HC, HAP, HB⟩ := hrel
    have k0 : (0 : Int) ≤ (k : Int) := by omega
    by_cases hlt : k < n
    · have hlt' : (k : Int) < (n : Int) := by omega
      obtain ⟨ad, hA, hc0⟩ := (HX.out.below HX.out.under HB.out).2 k hlt
      subst hA
      have HMK := Lib.hid (mkL_succ ks k)
      go_upto_region 7 with fail
      clear hc0
      go_wp2_with (first | (at_builtin; refine wpList_append_own_at rfl (.tmp 30) (.tmp 34) 26 rfl w.heap.size 28 i0 (.agg #[.int .i64 0, .int .i64 0]) pairC.sz 16 Try.underlying26 hi hz0 hz1 hz2 rfl (by decide) _ _ _ rfl (HL.out.alloc _) ⟨_, 0, none⟩ 1 1 (pairC.cs ⟨gi ks k, (k : Int)⟩) rfl rfl (cs_new pairC _ _ _ _ rfl) (pairC.one _) (by unfold maxLen; omega) (by omega) (by have := HB.out.size; simp; omega) ?_; intro v8 w8 hown8 hg8 hr8; have HB8 := Lib.hid (below_app HB.out HB.out.size (Nat.le_refl _) HL.out hg8); have HC8 := Lib.hid (own_other HC.out hg8 HAP.out); have HAP8 := Lib.hid (HAP.out.app hr8 (fun q hq => by have := (HC.out.lt q hq).2; simp; omega)); have HL8 := Lib.hid hown8; clear hown8 hg8 hr8) | (at_builtin; refine wpList_append_own_at rfl (.tmp 36) (.tmp 40) 26 rfl w.heap.size 28 i0 (.agg #[.int .i64 0, .int .i64 0]) pairC.sz 16 Try.underlying26 hi hz0 hz1 hz2 rfl (by decide) _ _ _ rfl (HC8.out.alloc _) ⟨_, 0, none⟩ 1 1 (pairC.cs ⟨gi ks k, (k : Int)⟩) rfl rfl (cs_new pairC _ _ _ _ rfl) (pairC.one _) (by unfold maxLen; omega) (by omega) (by have := HB8.out.size; simp; omega) ?_; intro v9 w9 hown9 hg9 hr9; have HB9 := Lib.hid (below_app HB8.out HB8.out.size (Nat.le_refl _) HC8.out hg9); have HL9 := Lib.hid (own_other HL8.out hg9 HAP8.out.symm); have HAP9 := Lib.hid ((HAP8.out.symm.app hr9 (fun q hq => by have := (HL8.out.lt q hq).2; simp; omega)).symm); have HC9 := Lib.hid hown9; clear hown9 hg9 hr9))
      go_wp2
      go_roundw
      case rel => exact ⟨k + 1, by omega, by go_num, Lib.hid (by rw [HMK.out, pairC.all_app, pairC.all_one]; exact HL9.out), Lib.hid (by rw [HMK.out, pairC.all_app, pairC.all_one]; exact HC9.out), HAP9, HB9⟩
      case measure => simp [intOf]; omega
    · obtain rfl : k = n := by omega
      have hd : ¬ ((k : Int) < (k : Int)) := by omega
      obtain ⟨Al, cl, hla, hcl⟩ := ownsRow_slice HL.out
      obtain ⟨Ac, cc, hca, _⟩ := ownsRow_slice HC.out
      subst hla hca
      have HLS := Lib.hid (SAt.own HL.out (by decide))
      have HCS := Lib.hid (SAt.own HC.out (by decide))
      have HLAW := Lib.hid (fun i h1 h2 => sorts_law HF.out ks k i h1 h2)
      have HPM := Lib.hid (msortL_perm (ltP m) k (mkL ks k))
      have hso := fun u (hu : SAt pairC u Al k (mkL ks k)) => sorted_any m Al cl k (mkL ks k) u hu hcl (by omega)
      have HDL : Hid ((msortL (ltP m) k (mkL ks k)).length = k) := Lib.hid (by rw [msortL_len, mkL_len])
      obtain ⟨D, hD⟩ : ∃ D, D = msortL (ltP m) k (mkL ks k) := ⟨_, rfl⟩
      rw [← hD] at hso HDL HLAW HPM
      have HSO := Lib.hid hso
      clear hso hD HL HC HAP
      go_wp2_with fail
      refine (HSO.out _ HLS.out).mono ?_
      rintro e w3 ⟨v3, rfl, hr3, hb3⟩
      rw [HDL.out] at hr3
      obtain ⟨A3, c3, hv3, _⟩ := ownsRow_slice hr3
      subst hv3
      have HD3 := Lib.hid (SAt.own hr3 (by decide))
      have HLS3 := Lib.hid (HLS.out.stays hb3)
      have HCS3 := Lib.hid (HCS.out.stays hb3)
      have HB3 := Lib.hid (bthen HB.out hb3 (Nat.le_refl _))
      clear hr3 hb3
      go_wp2_with fail
      refine (same_yes Al Ac k k cl cc (mkL ks k) _ HLS3.out HCS3.out (by omega)).mono ?_
      rintro e w' ⟨rfl, q, rfl⟩
      go_wp2_with fail
      refine (permuted_yes A3 Al k k c3 cl D (mkL ks k) _ (HD3.out.drewN q) (HLS3.out.drewN q) (by omega) HPM.out).mono ?_
      rintro e w5 ⟨rfl, hb5⟩
      have HD5 := Lib.hid ((HD3.out.drewN q).stays hb5)
      have HB5 := Lib.hid (bthen (bdrewN HB3.out q) hb5 (Nat.le_refl _))
      clear hb5
      go_wp2
      go_loopw [10] (fun i wr2 => ∃ j : Nat, 1 ≤ j ∧ i = .int .i64 j ∧ Hid (Below w5.heap.size w5 wr2)) (fun i _ => k - (intOf i).toNat)
      case atStart => exact ⟨1, by omega, rfl, Lib.hid (Below.refl _ _)⟩
      case round =>
        obtain ⟨j, hj1, rfl, HB2⟩ := hrel
        have j0 : (0 : Int) ≤ (j : Int) := by omega
        by_cases hlt : j < k
        · have hlt' : (j : Int) < (k : Int) := by omega
          obtain ⟨h1, h2⟩ := HLAW.out j (by omega) hlt
          obtain ⟨b3, o3, hA, _⟩ := HD5.out.at_ hlt
          subst hA
          have HDW := Lib.hid (HD5.out.stays HB2.out)
          obtain ⟨wo, hwo⟩ : ∃ wo, wo = wr := ⟨_, rfl⟩
          obtain ⟨x0, x1⟩ := sub_pair HDW.out hlt
          obtain ⟨y0, y1⟩ := sub_pair HDW.out (show j - 1 < k by omega)
          obtain ⟨r, hr⟩ : ∃ r, ltP m (gp D (j - 1)) (gp D j) = r := ⟨_, rfl⟩
          have hc1 : ∀ x : Sub wr, _ := fun x => calls_sub (less_at m (gp D j) (gp D (j - 1)) false h1 x.u)
          have hc2 : ∀ x : Sub wr, _ := fun x => calls_sub (less_at m (gp D (j - 1)) (gp D j) r hr x.u)
          rw [hr] at h2
          have hw1 : IntKind.i64.wrap ((j : Int) - 1) = (j : Int) - 1 := wrap64 (by omega) (by omega)
          have hw2 : (0 : Int) ≤ (j : Int) - 1 := by omega
          have hw5 : (1 : Int) ≤ (j : Int) := by omega
          have hw3 : ((j : Int) - 1).toNat = j - 1 := by omega
          have hw4 : (j : Int) - 1 < (k : Int) := by omega
          clear hr h1 hwo
          cases r
          · have hmk : decide ((gp D j).mark < (gp D (j - 1)).mark) = false := decide_eq_false (by have := h2 rfl; omega)
            clear h2
            go_wp2
            refine wp_region_sub (wo := wr) (by kernel_rfl) (by kernel_rfl) (Below.refl _ _) ?_
            repeat (go_big_quiet_step (first | (with_reducible exact hc1 _) | (with_reducible exact hc2 _)))
            refine wpQuiet_nil ?_
            rintro _ ⟨⟨w6, hb6⟩, rfl⟩
            have HB6 := Lib.hid (bthen HB2.out hb6 (Nat.le_refl _))
            clear hc1 hc2 x0 x1 y0 y1 hb6 hw1 hw3
            go_wp2
            go_roundw
            case rel => exact ⟨j + 1, by omega, by go_num, HB6⟩
            case measure => simp [intOf]; omega
          · clear h2
            go_wp2
            refine wp_region_sub (wo := wr) (by kernel_rfl) (by kernel_rfl) (Below.refl _ _) ?_
            repeat (go_big_quiet_step (first | (with_reducible exact hc1 _) | (with_reducible exact hc2 _)))
            refine wpQuiet_nil ?_
            rintro _ ⟨⟨w6, hb6⟩, rfl⟩
            have HB6 := Lib.hid (bthen HB2.out hb6 (Nat.le_refl _))
            clear hc1 hc2 x0 x1 y0 y1 hb6 hw1 hw3
            go_wp2
            go_roundw
            case rel => exact ⟨j + 1, by omega, by go_num, HB6⟩
            case measure => simp [intOf]; omega
        · have hd : ¬ ((j : Int) < (k : Int)) := by omega
          go_wp2_with fail
          refine (example_any _).mono ?_
          rintro e w7 ⟨rfl, hb7⟩
          have HB7 := Lib.hid (bthen (bthen HB5.out HB2.out (Nat.le_refl _)) hb7 (Nat.le_refl _))
          clear hb7
          go_wp2
          go_ret
          exact ⟨rfl, HB7.out⟩
end Go.Proofs.Ytndbdgadijbhnaa
