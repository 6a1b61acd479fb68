/-
  All: the distances from every node, on both sides. Printed by gen/sp14.py.
-/
import Derived.Test.YtabhinmodnmllaaSqG
import Derived.Test.YtabhinmodnmllaaSqK
import Derived.Test.YtabhinmodnmllaaSpS
import Derived.Test.YtabhinmodnmllaaAppAt
namespace Go.Proofs.Ytabhinmodnmllaa
open Go.RowKit

section
variable {Q0 : Program}
theorem wpList_append_own_at {w : World} {ops : Array Oper} {rest : List Oper} {o : Oper} {a : Act} {Q : Exit → Act → World → Prop} (hgd : o.guard = none) (s x : Operand) (t : TypeId)
    (ho : o.op = .call { callee := .builtin .append, args := #[s, x], argTypes := #[t, t] })
    (base : Nat) (e : TypeId) (i : TypeInfo) (z : Value) (size bytes : Nat) (ht : Q0.underlying t = some (.slice e)) (hi : Q0.info? e = some i) (hz : i.zero = some z)
    (hsize : i.size = size) (hby : i.bytes = bytes) (hzs : z.cells.size = size) (hsz : 0 < size)
    (v : Value) (n : Nat) (xs : List Value) (hs : a.eval s = v) (hown : w.ownsRow base e size v n xs)
    (ad : Addr) (m c : Nat) (news : List Value) (hx : a.eval x = .slice (some ad) m c) (hl : news.length = m * size) (hnews : ∀ j u, news[j]? = some u → w.cell? (ad.add j) = some u) (h1 : ∀ u ∈ news, u.oneCell' = true)
    (h63 : n + m ≤ maxLen) (hbytes : (n + m) * bytes ≤ 140737488355328) (hbase : base ≤ w.heap.size)
    (h : ∀ v' w', w'.ownsRow base e size v' (n + m) (xs ++ news) → w.grownBy w' v.ownBlock → (v'.ownBlock = v.ownBlock ∨ ∀ k, v'.ownBlock = some k → w.heap.size ≤ k) → wpList Q0 ops Q rest (a.put o.dst v') w') : wpList Q0 ops Q (o :: rest) a w :=
  wpList_plain hgd fun K hK => by
    obtain ⟨v', w', hr, h2, h3, h4⟩ := run_append_own_at (P := Q0) w base t o.type e i z size bytes ht hi hz hsize hby hzs hsz v n xs hown ad m c news hl hnews h1 h63 hbytes hbase
    unfold Oper.wp execOp
    simp only [ho, resolve, invoke, builtin, Sem.run_bind, Sem.run_pure, Result.andThen_ok, List.map_toArray, List.map_cons, List.map_nil, hs, hx, hr]
    exact hK _ _ (h v' w' h2 h3 h4)
end
/-- the row of an answer lies in a block that was not there before -/
def Fresh (w : World) (e : Ending) : Prop := ∀ A k c er, e = .returned (.tuple #[.slice A k c, er]) → ∀ ad : Addr, A = some ad → w.heap.size ≤ ad.block
theorem Fresh.nil (w : World) (v : Value) : Fresh w (.returned (.tuple #[.slice none 0 0, v])) := by
  intro A k c er h ad hA
  injection h with h
  injection h with h
  injection h with h
  injection h with h
  injection h with h
  subst h
  cases hA
theorem Fresh.at_ {w : World} {g k c : Nat} {v : Value} (h : w.heap.size ≤ g) : Fresh w (.returned (.tuple #[.slice (some ⟨g, 0, none⟩) k c, v])) := by
  intro A k c er he ad hA
  injection he with he
  injection he with he
  injection he with he
  injection he with he
  injection he with he
  subst he
  injection hA with hA
  subst hA
  exact h
set_option maxRecDepth 100000 in
set_option maxHeartbeats 2000000 in
theorem lengths_at (A : Option Addr) (n c : Nat) (out : List Lab) (w : World) (hx : SAt labC w A n out) (hn : n ≤ 1000) : Calls Try.prog 24 #[.slice A n c] w fun e w' => e = .returned (.slice (some ⟨w.heap.size, 0, none⟩) n n) ∧ IntsAt w' (some ⟨w.heap.size, 0, none⟩) n (lens out n) ∧ w.heap.size < w'.heap.size ∧ Below w.heap.size w w' := by
  obtain ⟨i0, hi, hz0, hz1, hz2⟩ := info_parts int_info
  have HX := Lib.hid hx
  clear hx
  go_enter Try.func24, Try.ntmps24
  go_wp2_with (first | (at_make; refine wpList_make_full _ rfl _ _ 25 rfl w.heap.size 3 i0 (.int .i64 0) 1 Try.underlying25 hi hz0 hz1 .i64 .i64 _ _ n rfl rfl (by omega) (by omega) (by rw [hz2]; omega) (by unfold maxLen; omega) (Nat.le_refl _) ?_; intro w2 hr2 hg2; have HB2 := Lib.hid ((Below.refl _ w).grown hg2 (Nat.le_refl _) (by simp)); have HO2 : Hid (w2.ownsRow w.heap.size 3 intC.sz (.slice (some ⟨w.heap.size, 0, none⟩) n n) n (intC.all (lenTo out n 0))) := Lib.hid (by rw [lenTo_zero, ← made_int]; exact hr2); clear hr2 hg2))
  go_loopw [11] (fun i wr => ∃ k : Nat, k ≤ n ∧ i = .int .i64 k ∧ Hid (wr.ownsRow w.heap.size 3 intC.sz (.slice (some ⟨w.heap.size, 0, none⟩) n n) n (intC.all (lenTo out n k))) ∧ Hid (Below w.heap.size w wr)) (fun i _ => n - (intOf i).toNat)
  case atStart => exact ⟨0, by omega, rfl, HO2, HB2⟩
  case round =>
    obtain ⟨k, hkn, rfl, HO, HB⟩ := hrel
    have k0 : (0 : Int) ≤ (k : Int) := by omega
    by_cases hlt : k < n
    · have hlt' : (k : Int) < (n : Int) := by omega
      obtain ⟨b, o, hA, _⟩ := HX.out.at_ hlt
      subst hA
      obtain ⟨c0, c1, c2⟩ := lab_cells (HX.out.stays HB.out) hlt
      have HST := Lib.hid (lenTo_set (out := out) hlt)
      obtain ⟨X, hX⟩ : ∃ X, X = wr.heap.size := ⟨_, rfl⟩
      obtain ⟨W, hW⟩ : ∃ W, W = wr.alloc (.cells #[.int .i64 (gl out k).node, .int .i64 (gl out k).len, .int .i64 (gl out k).edges] 57) := ⟨_, rfl⟩
      have hbW : Below wr.heap.size wr W := by rw [hW]; exact al1 _ _
      have HXB : Hid (Box2 W X (gl out k)) := Lib.hid (by rw [hW]; exact Box2.new wr _ _ _ hX)
      have HO3 := Lib.hid (ownsRow_stays HO.out hbW)
      have HB3 := Lib.hid (bthen HB.out hbW (Nat.le_refl _))
      clear hbW
      go_upto_region 5 with fail
      rw [← hW, ← hX]
      clear hW hX c0 c1 c2
      obtain ⟨b0, b1, b2, _, _, _⟩ := HXB.out
      obtain ⟨q0, q1⟩ : W.cell? ⟨w.heap.size, k, none⟩ = some (.int .i64 (intC.g (lenTo out n k) k)) ∧ W.frozen? ⟨w.heap.size, k, none⟩ = false := ⟨by have := (SAt.own HO3.out (by decide)).cells hlt 0 _ rfl; simpa [intC] using this, HO3.out.frozenAt _⟩
      go_wp2
      go_roundw
      case rel => exact ⟨k + 1, by omega, by go_num, Lib.hid (by rw [← HST.out]; have := own_store (j := 0) HO3.out (k := k) (by rw [lenTo_len]; exact hlt) (by decide) (gl out k).len (.int .i64 (gl out k).len) rfl; simpa [intC] using this), Lib.hid (HB3.out.setCell (Nat.le_refl _) _)⟩
      case measure => simp [intOf]; omega
    · obtain rfl : k = n := by omega
      have hd0 : ¬ ((k : Int) < (k : Int)) := by omega
      go_wp2
      go_ret
      have := HO.out
      rw [int_all] at this
      exact ⟨rfl, (IntsAt.own this).1, (own_lt HO.out).1, HB.out⟩
set_option maxRecDepth 100000 in
set_option maxHeartbeats 4000000 in
theorem rdist_fresh (A : Option Addr) (n s : Int) (m c : Nat) (l : List Edge) (w : World) (hx : SAt edgeC w A m l) (hm : m ≤ 500 ∨ 4096 < m) : Calls Try.prog 13 #[.int .i64 n, .slice A m c, .int .i64 s] w fun e w' => DistR l n s w e w' ∧ Fresh w e := by
  have HX := Lib.hid hx
  have HM := Lib.hid hx.1
  clear hx
  obtain ⟨r, hr⟩ : ∃ r, checkI n l = r := ⟨_, rfl⟩
  go_enter Try.func13, Try.ntmps13
  go_wp2_with fail
  refine (rcheck_any n A m c l w HX.out).mono ?_
  rintro e w0 ⟨rfl, rfl⟩
  rw [hr]
  by_cases hr0 : r = 0
  · subst hr0
    have H1 := Lib.hid (check_one (s := s) hr)
    have hc := checkI_good hr
    clear hr
    by_cases h1 : s < 0
    · have HR : Hid (checkN n l [s] = 9) := Lib.hid (by rw [H1.out, if_pos (.inl h1)])
      clear H1 hc
      go_wp2
      go_ret2
      exact ⟨⟨fun _ => by rw [HR.out]; rfl, fun h => by have := HR.out; omega, Below.refl _ _⟩, Fresh.nil _ _⟩
    by_cases h2 : n ≤ s
    · have HR : Hid (checkN n l [s] = 9) := Lib.hid (by rw [H1.out, if_pos (.inr h2)])
      clear H1 hc
      go_wp2
      go_ret2
      exact ⟨⟨fun _ => by rw [HR.out]; rfl, fun h => by have := HR.out; omega, Below.refl _ _⟩, Fresh.nil _ _⟩
    have HR : Hid (checkN n l [s] = 0) := Lib.hid (by rw [H1.out, if_neg (by omega)])
    clear H1
    obtain ⟨N, rfl⟩ : ∃ N : Nat, n = (N : Int) := ⟨n.toNat, by omega⟩
    obtain ⟨S, rfl⟩ : ∃ S : Nat, s = (S : Int) := ⟨s.toNat, by omega⟩
    have HGD := Lib.hid hc.2.2.2
    have hN : N ≤ 64 := by omega
    have hS : S < N := by omega
    have hm5 : m ≤ 500 := by have h1 := hc.2.2.1; have h2 := HM.out; omega
    clear hc hm
    go_wp2_with fail
    refine (turned_any A m c l w HX.out (by omega)).mono ?_
    rintro e w2 ⟨v2, rfl, ho2, hb2⟩
    obtain ⟨A2, c2, rfl, _⟩ := ownsRow_slice ho2
    have HT := Lib.hid (SAt.own ho2 (by decide))
    have HTL : Hid ((turnL l).length = m) := Lib.hid (by rw [turnL_len]; exact HM.out)
    rw [HTL.out] at HT
    rw [HTL.out]
    have HB2 := Lib.hid hb2
    clear ho2 hb2
    go_wp2_with fail
    refine (costs_any A2 N m c2 S (turnL l) w2 HT.out (turn_good HGD.out) hN hm5 hS).mono ?_
    rintro e w3 ⟨v3, rfl, ho3, hb3⟩
    rw [costs_len] at ho3
    obtain ⟨A3, c3, rfl, _⟩ := ownsRow_slice ho3
    obtain ⟨g, hg1, hg2⟩ : ∃ g, A3 = some ⟨g, 0, none⟩ ∧ w2.heap.size ≤ g := by
      have hO := ho3
      rcases hO.2 with ⟨_, h0⟩ | ⟨g, cap, cur, h1, _⟩
      · omega
      · injection h1 with h1
        subst h1
        exact ⟨g, rfl, (own_lt hO).2⟩
    subst hg1
    have HLC := Lib.hid (costs_len (turnL l) N S)
    obtain ⟨base, hbase⟩ : ∃ base, base = w2.heap.size := ⟨_, rfl⟩
    have HBS : Hid (w.heap.size ≤ base) := Lib.hid (by rw [hbase]; exact HB2.out.size)
    have HSM : Hid (∀ u : Nat, -1 ≤ gi (costsOf (turnL l) N S) u ∧ gi (costsOf (turnL l) N S) u ≤ 4500000000000000) := Lib.hid (fun u => by
      have h1 := rounds_small hS (turn_good HGD.out) (by rw [turnL_len, HM.out]; exact hm5) N u
      unfold costsOf
      omega)
    obtain ⟨cs, hcs⟩ : ∃ cs, cs = costsOf (turnL l) N S := ⟨_, rfl⟩
    have HCS := Lib.hid hcs
    rw [← hbase] at ho3 hg2
    rw [← hcs] at ho3 HLC HSM
    have HO3 := Lib.hid ho3
    have HB3 := Lib.hid (bthen HB2.out hb3 (Nat.le_refl _))
    clear ho3 hb3 HT HTL HB2 HGD HX hbase hcs
    go_wp2
    go_loopw [10] (fun i wb => ∃ (k : Nat) (ds : List Int), k ≤ N ∧ i = .int .i64 k ∧ Hid (DivTo cs ds N k) ∧ Hid (wb.ownsRow base 3 intC.sz (.slice (some ⟨g, 0, none⟩) N c3) N (intC.all ds)) ∧ Hid (Below w.heap.size w wb)) (fun i _ => N - (intOf i).toNat)
    case atStart => exact ⟨0, cs, by omega, rfl, Lib.hid (DivTo.start HLC.out), HO3, HB3⟩
    case round =>
      clear HO3 HB3
      obtain ⟨k, ds, hkn, rfl, HD, HO, HB⟩ := hrel
      have k0 : (0 : Int) ≤ (k : Int) := by omega
      by_cases hlt : k < N
      · have hlt' : (k : Int) < (N : Int) := by omega
        obtain ⟨q0, q1⟩ := int_own HO.out hlt
        have HKP := fun h => Lib.hid (HD.out.keep hlt h)
        have HPT := fun h => Lib.hid (HD.out.put hlt h)
        have HPUT := fun x => Lib.hid (int_put HO.out (by rw [HD.out.1]; exact hlt) x)
        have hsm : -1 ≤ gi ds k ∧ gi ds k ≤ 4500000000000000 := by
          have := HD.out.2 k hlt
          rw [if_neg (by omega)] at this
          rw [this]
          exact HSM.out k
        obtain ⟨ck, hck⟩ : ∃ ck, ck = gi ds k := ⟨_, rfl⟩
        rw [← hck] at q0 HKP HPT hsm
        clear hck
        have hg3 : w.heap.size ≤ g := Nat.le_trans HBS.out hg2
        by_cases hz : ck < 0
        · have HR2 := HKP hz
          clear HKP HPT HPUT
          have hz' : ¬ 0 ≤ ck := by omega
          go_wp2
          go_roundw
          case rel => exact ⟨k + 1, ds, by omega, by go_num, HR2, HO, HB⟩
          case measure => simp [intOf]; omega
        · have HR2 := HPT hz
          have HPU := HPUT (ck / 128)
          clear HKP HPT HPUT
          have hz' : 0 ≤ ck := by omega
          go_wp2
          go_roundw
          case rel => exact ⟨k + 1, _, by omega, by go_num, HR2, HPU, Lib.hid (HB.out.setCell (p := ⟨g, k, none⟩) hg3 _)⟩
          case measure => simp [intOf]; omega
      · obtain rfl : k = N := by omega
        have hd0 : ¬ ((k : Int) < (k : Int)) := by omega
        have HE : Hid (ds = distL l k S) := Lib.hid (DivTo.end_ (by rw [← HCS.out]; exact HD.out))
        go_wp2
        go_ret2
        refine ⟨⟨fun h => absurd HR.out h, fun _ => ⟨some ⟨g, 0, none⟩, c3, by rw [Int.toNat_natCast]; rfl, ?_⟩, HB.out⟩, Fresh.at_ (Nat.le_trans HBS.out hg2)⟩
        rw [Int.toNat_natCast, Int.toNat_natCast, ← HE.out]
        have := HO.out
        rw [int_all] at this
        exact (IntsAt.own this).1
  · have HR := Lib.hid (check_first (ns := [s]) hr hr0)
    clear hr
    go_wp2
    go_ret2
    exact ⟨⟨fun _ => by rw [HR.out]; rfl, fun h => absurd (HR.out.symm.trans h) hr0, Below.refl _ _⟩, Fresh.nil _ _⟩

/-- the value of a slice -/
structure Hdr where
  /-- where -/
  A : Option Addr
  /-- its length -/
  n : Nat
  /-- its room -/
  c : Nat
/-- rows of slices -/
def hdrC : Codec Hdr where
  cs x := [.slice x.A x.n x.c]
  sz := 1
  d := ⟨none, 0, 0⟩
  len _ := rfl
  one x u hu := by
    simp at hu
    subst hu
    rfl
/-- slice k -/
def gh (xs : List Hdr) (k : Nat) : Hdr := hdrC.g xs k
theorem hdr_info : (Try.prog.info? 25).map (fun i => (i.zero, i.size, i.bytes)) = some (some (.slice none 0 0), 1, 24) := by kernel_rfl
theorem ints_block {w w' : World} {A : Option Addr} {n : Nat} {xs : List Int} (h : IntsAt w A n xs) (hb : ∀ ad, A = some ad → w'.heap[ad.block]? = w.heap[ad.block]?) : IntsAt w' A n xs := by
  refine ⟨h.1, fun k hk => ?_⟩
  obtain ⟨ad, h1, h2⟩ := h.2 k hk
  exact ⟨ad, h1, (World.cell?_of_block (a := ad.add k) (by rw [add_block]; exact hb ad h1)).trans h2⟩
/-- each of the first k rows holds the distances from its node, and lies apart from the row of rows -/
def RowsOk (w : World) (l : List Edge) (n : Nat) (hs : List Hdr) (k : Nat) (ob : Option Nat) : Prop :=
  ∀ j, j < k → (gh hs j).n = n ∧ IntsAt w (gh hs j).A n (distL l n j) ∧ ∀ ad, (gh hs j).A = some ad → ob ≠ some ad.block ∧ ad.block < w.heap.size
theorem RowsOk.stays {w w' : World} {l : List Edge} {n k : Nat} {hs : List Hdr} {ob : Option Nat} (h : RowsOk w l n hs k ob) (hb : Below w.heap.size w w') : RowsOk w' l n hs k ob := fun j hj => by
  obtain ⟨h1, h2, h3⟩ := h j hj
  exact ⟨h1, h2.stays hb, fun ad hA => ⟨(h3 ad hA).1, Nat.lt_of_lt_of_le (h3 ad hA).2 hb.size⟩⟩
theorem RowsOk.grown {w w8 : World} {l : List Edge} {n k : Nat} {hs : List Hdr} {ob : Option Nat} {tmp : Obj} {v8 : Value} (h : RowsOk w l n hs k ob) (hg : (w.alloc tmp).grownBy w8 ob) (hr : v8.ownBlock = ob ∨ ∀ q, v8.ownBlock = some q → (w.alloc tmp).heap.size ≤ q) : RowsOk w8 l n hs k v8.ownBlock := fun j hj => by
  obtain ⟨h1, h2, h3⟩ := h.stays (al1 w tmp) j hj
  refine ⟨h1, ints_block h2 (fun ad hA => hg.block ad.block (h3 ad hA).2 (fun e => (h3 ad hA).1 e.symm)), fun ad hA => ⟨?_, Nat.lt_of_lt_of_le (h3 ad hA).2 hg.size⟩⟩
  rcases hr with hr | hr
  · rw [hr]; exact (h3 ad hA).1
  · intro e
    have h4 := hr _ e
    have h5 := (h3 ad hA).2
    omega
theorem RowsOk.add {w : World} {l : List Edge} {n k : Nat} {hs : List Hdr} {ob : Option Nat} (h : RowsOk w l n hs k ob) (hl : hs.length = k) {A : Option Addr} {c : Nat} (h1 : IntsAt w A n (distL l n k)) (h2 : ∀ ad, A = some ad → ob ≠ some ad.block ∧ ad.block < w.heap.size) : RowsOk w l n (hs ++ [⟨A, n, c⟩]) (k + 1) ob := fun j hj => by
  by_cases e : j = k
  · subst e
    have hg : gh (hs ++ [⟨A, n, c⟩]) j = ⟨A, n, c⟩ := by
      unfold gh
      rw [hdrC.g_eq (by rw [List.length_append]; simp; omega)]
      simp [← hl]
    rw [hg]
    exact ⟨rfl, h1, h2⟩
  · have hg : gh (hs ++ [⟨A, n, c⟩]) j = gh hs j := hdrC.g_app_left (by omega)
    rw [hg]
    exact h j (by omega)
theorem RowsOk.put {w : World} {l : List Edge} {n k g : Nat} {hs : List Hdr} (h : RowsOk w l n hs k (some g)) (hk : k < hs.length) {A : Option Addr} {c : Nat} (h1 : IntsAt w A n (distL l n k)) (h2 : ∀ ad, A = some ad → some g ≠ some ad.block ∧ ad.block < w.heap.size) (o : Nat) (v : Value) : RowsOk (w.setCell ⟨g, o, none⟩ v) l n (hs.set k ⟨A, n, c⟩) (k + 1) (some g) := fun j hj => by
  have hbl : ∀ b, some g ≠ some b → (w.setCell ⟨g, o, none⟩ v).heap[b]? = w.heap[b]? := fun b hb => Below.heap_setCell _ _ _ _ (fun e => hb (by rw [e]))
  have hsz : (w.setCell ⟨g, o, none⟩ v).heap.size = w.heap.size := by simp
  by_cases e : j = k
  · subst e
    have hg : gh (hs.set j ⟨A, n, c⟩) j = ⟨A, n, c⟩ := by
      unfold gh
      rw [hdrC.g_eq (by rw [List.length_set]; exact hk)]
      simp
    rw [hg]
    exact ⟨rfl, ints_block h1 (fun ad hA => hbl _ (h2 ad hA).1), fun ad hA => by rw [hsz]; exact h2 ad hA⟩
  · have hg : gh (hs.set k ⟨A, n, c⟩) j = gh hs j := by
      unfold gh
      rw [hdrC.g_eq (by rw [List.length_set]; omega), hdrC.g_eq (by omega), List.getElem_set_ne (by omega)]
    rw [hg]
    obtain ⟨h3, h4, h5⟩ := h j (by omega)
    exact ⟨h3, ints_block h4 (fun ad hA => hbl _ (h5 ad hA).1), fun ad hA => by rw [hsz]; exact h5 ad hA⟩
theorem checkN_none (n : Int) (l : List Edge) : checkN n l [] = checkI n l := by
  unfold checkN
  by_cases h : checkI n l ≠ 0
  · rw [if_pos h]
  · rw [if_neg h]
    simp
    omega
/-- what All leaves, in both packages -/
def AllR (l : List Edge) (n : Int) (w : World) (e : Ending) (w' : World) : Prop :=
  (checkI n l ≠ 0 → e = .returned (.tuple #[.slice none 0 0, .int .i64 (checkI n l)])) ∧
  (checkI n l = 0 → ∃ A c hs, e = .returned (.tuple #[.slice A n.toNat c, .int .i64 0]) ∧ SAt hdrC w' A n.toNat hs ∧ (∀ j, j < n.toNat → (gh hs j).n = n.toNat ∧ IntsAt w' (gh hs j).A n.toNat (distL l n.toNat j))) ∧ Below w.heap.size w w'

set_option maxRecDepth 100000 in
set_option maxHeartbeats 2000000 in
theorem rall_any (A : Option Addr) (n : Int) (m c : Nat) (l : List Edge) (w : World) (hx : SAt edgeC w A m l) (hm : m ≤ 500 ∨ 4096 < m) : Calls Try.prog 22 #[.int .i64 n, .slice A m c] w fun e w' => AllR l n w e w' := by
  obtain ⟨i0, hi, hz0, hz1, hz2⟩ := info_parts hdr_info
  have HX := Lib.hid hx
  have HM := Lib.hid hx.1
  clear hx
  obtain ⟨r, hr⟩ : ∃ r, checkI n l = r := ⟨_, rfl⟩
  go_enter Try.func22, Try.ntmps22
  go_wp2_with fail
  refine (rcheck_any n A m c l w HX.out).mono ?_
  rintro e w0 ⟨rfl, rfl⟩
  rw [hr]
  have HR := Lib.hid hr
  by_cases hr0 : r = 0
  · subst hr0
    have hc := checkI_good hr
    obtain ⟨N, rfl⟩ : ∃ N : Nat, n = (N : Int) := ⟨n.toNat, by omega⟩
    have HCK : Hid (∀ k : Nat, k < N → checkN (N : Int) l [(k : Int)] = 0) := Lib.hid (fun k hk => by rw [check_one hr, if_neg (by omega)])
    have hN : N ≤ 64 := by omega
    clear hr hc
    go_wp2
    go_loopw [7, 8] (fun s i wr => ∃ (k : Nat) (hs : List Hdr), k ≤ N ∧ i = .int .i64 k ∧ Hid (hs.length = k) ∧ Hid (wr.ownsRow w.heap.size 25 hdrC.sz s k (hdrC.all hs)) ∧ Hid (RowsOk wr l N hs k s.ownBlock) ∧ Hid (Below w.heap.size w wr)) (fun _ i _ => N - (intOf i).toNat)
    case atStart => exact ⟨0, [], by omega, rfl, Lib.hid rfl, Lib.hid (World.ownsRow_nil _ _ _ _), Lib.hid (fun j hj => absurd hj (by omega)), Lib.hid (Below.refl _ w)⟩
    case round =>
      obtain ⟨k, hs, hkn, rfl, HL, HO, HRO, HB⟩ := hrel
      have k0 : (0 : Int) ≤ (k : Int) := by omega
      obtain ⟨A1, c1, rfl, _⟩ := ownsRow_slice HO.out
      by_cases hlt : k < N
      · have hlt' : (k : Int) < (N : Int) := by omega
        have HOB : Hid (∀ q, (Value.slice A1 k c1).ownBlock = some q → q < wr.heap.size) := Lib.hid (fun q hq => (HO.out.lt q hq).2)
        go_wp2_with fail
        refine (rdist_fresh A (N : Int) (k : Int) m c l wr (HX.out.stays HB.out) hm).mono ?_
        rintro e w2 ⟨hd, hfr⟩
        obtain ⟨A2, c2, he, hd2⟩ := hd.2.1 (HCK.out k hlt)
        rw [Int.toNat_natCast] at he hd2
        rw [Int.toNat_natCast] at hd2
        subst he
        have hfr2 := hfr A2 N c2 _ rfl
        have hb2 := hd.2.2
        have HB2 := Lib.hid (bthen HB.out hb2 (Nat.le_refl _))
        have HO2 := Lib.hid (ownsRow_stays HO.out hb2)
        have hlt2 : ∀ ad, A2 = some ad → ad.block < w2.heap.size := fun ad hA => by
          obtain ⟨ad2, h1, h2⟩ := hd2.2 0 (by omega)
          rw [hA] at h1
          injection h1 with h1
          subst h1
          exact cell?_block_lt h2
        have HRO2 := Lib.hid ((HRO.out.stays hb2).add HL.out (c := c2) hd2 (fun ad hA => ⟨fun e => by have h1 := HOB.out _ e; have h2 := hfr2 ad hA; omega, hlt2 ad hA⟩))
        clear hd hfr hfr2 hb2 hd2 hlt2 HRO HB HO HOB
        go_wp2_with (at_builtin; refine wpList_append_own_at rfl _ _ 41 rfl w.heap.size 25 i0 (.slice none 0 0) hdrC.sz 24 Try.underlying41 hi hz0 hz1 hz2 rfl (by decide) _ _ _ rfl (HO2.out.alloc _) ⟨w2.heap.size, 0, none⟩ 1 1 [.slice A2 N c2] rfl rfl (cell_new1 _ _ _) (by intro u hu; simp at hu; subst hu; rfl) (by unfold maxLen; omega) (by omega) (balloc HB2.out _ (Nat.le_refl _)).size ?_; intro v8 w8 hown8 hg8 hr8; have HO8 : Hid (w8.ownsRow w.heap.size 25 hdrC.sz v8 (k + 1) (hdrC.all (hs ++ [⟨A2, N, c2⟩]))) := Lib.hid (by rw [hdrC.all_app, hdrC.all_one]; exact hown8); have HB8 := Lib.hid (below_app HB2.out HB2.out.size (Nat.le_refl _) HO2.out hg8); have HRO8 := Lib.hid (HRO2.out.grown hg8 hr8); clear hown8 hg8 hr8)
        go_roundw
        case rel => exact ⟨k + 1, _, by omega, by go_num, Lib.hid (by rw [List.length_append, HL.out]; rfl), HO8, HRO8, HB8⟩
        case measure => simp [intOf]; omega
      · obtain rfl : k = N := by omega
        have hd0 : ¬ ((k : Int) < (k : Int)) := by omega
        go_wp2
        go_ret2
        refine ⟨fun h => absurd HR.out h, fun _ => ⟨A1, c1, hs, by rw [Int.toNat_natCast]; rfl, by rw [Int.toNat_natCast]; exact SAt.own HO.out (by decide), fun j hj => ?_⟩, HB.out⟩
        rw [Int.toNat_natCast] at hj ⊢
        exact ⟨(HRO.out j hj).1, (HRO.out j hj).2.1⟩
  · clear hr
    go_wp2
    go_ret2
    exact ⟨fun _ => by rw [HR.out]; rfl, fun h => absurd (HR.out.symm.trans h) hr0, Below.refl _ _⟩

theorem made_hdr (n : Nat) : (madeCells #[.slice none 0 0] (n * 1)).toList = hdrC.all (List.replicate n ⟨none, 0, 0⟩) := by
  have h : ∀ xs : List Hdr, hdrC.all xs = xs.map fun x => Value.slice x.A x.n x.c := fun xs => by
    unfold Codec.all
    induction xs with
    | nil => rfl
    | cons x t ih => rw [List.flatMap_cons, ih]; rfl
  rw [h, List.map_replicate, List.eq_replicate_iff]
  refine ⟨by simp [madeCells], fun b hb => ?_⟩
  simp [madeCells] at hb
  obtain ⟨q, hq, rfl⟩ := hb
  simp [show q % 1 = 0 by omega]
theorem hdr_own {w : World} {base e g n c k : Nat} {xs : List Hdr} (h : w.ownsRow base e hdrC.sz (.slice (some ⟨g, 0, none⟩) n c) n (hdrC.all xs)) (hk : k < n) :
    w.cell? ⟨g, k, none⟩ = some (.slice (gh xs k).A (gh xs k).n (gh xs k).c) ∧ w.frozen? ⟨g, k, none⟩ = false := by
  refine ⟨?_, h.frozenAt _⟩
  have := (SAt.own h (by decide)).cells hk 0 _ rfl
  simpa [hdrC, Codec.g, gh] using this
theorem hdr_put {w : World} {base e g n c k : Nat} {xs : List Hdr} (h : w.ownsRow base e hdrC.sz (.slice (some ⟨g, 0, none⟩) n c) n (hdrC.all xs)) (hk : k < xs.length) (x : Hdr) :
    (w.setCell ⟨g, k, none⟩ (.slice x.A x.n x.c)).ownsRow base e hdrC.sz (.slice (some ⟨g, 0, none⟩) n c) n (hdrC.all (xs.set k x)) := by
  have := own_store (j := 0) h hk (by decide) x (.slice x.A x.n x.c) rfl
  simpa [hdrC] using this

set_option maxRecDepth 100000 in
set_option maxHeartbeats 2000000 in
theorem all_any (A : Option Addr) (n : Int) (m c : Nat) (l : List Edge) (w : World) (hx : SAt edgeC w A m l) (hm : m ≤ 500 ∨ 4096 < m) : Calls Try.prog 21 #[.int .i64 n, .slice A m c] w fun e w' => AllR l n w e w' := by
  obtain ⟨i0, hi, hz0, hz1, hz2⟩ := info_parts hdr_info
  have HX := Lib.hid hx
  have HM := Lib.hid hx.1
  clear hx
  go_enter Try.func21, Try.ntmps21
  go_wp2_with fail
  refine (check_any n A m c l none 0 0 [] w HX.out ⟨rfl, fun i h => absurd h (by omega)⟩ (by omega)).mono ?_
  rintro e w1 ⟨rfl, hb1⟩
  have HX1 := Lib.hid (HX.out.stays hb1)
  have HB1 := Lib.hid hb1
  clear hb1
  rw [checkN_none]
  obtain ⟨r, hr⟩ : ∃ r, checkI n l = r := ⟨_, rfl⟩
  rw [hr]
  have HR := Lib.hid hr
  by_cases hr0 : r = 0
  · subst hr0
    have hc := checkI_good hr
    obtain ⟨N, rfl⟩ : ∃ N : Nat, n = (N : Int) := ⟨n.toNat, by omega⟩
    have HGD := Lib.hid hc.2.2.2
    have hN : N ≤ 64 := by omega
    replace hm : m ≤ 500 := by have h1 := hc.2.2.1; have h2 := HM.out; omega
    clear hr hc
    go_wp2_with fail
    refine (nbr_false A m c l _ HX1.out (by omega) (fun k hk => by have := (HGD.out _ (ge_mem (by rw [HM.out]; exact hk))).1; unfold I64; omega)).mono ?_
    rintro e w2 ⟨rfl, ⟨G, hG⟩, hb3⟩
    have HB2 := Lib.hid (bthen HB1.out hb3 (Nat.le_refl _))
    have HG := Lib.hid hG
    have HW2 : Hid (w.heap.size ≤ w2.heap.size) := Lib.hid HB2.out.size
    clear hb3 hG
    go_wp2_with (first | (at_make; refine wpList_make_full _ rfl _ _ 41 rfl w2.heap.size 25 i0 (.slice none 0 0) 1 Try.underlying41 hi hz0 hz1 .i64 .i64 _ _ N rfl rfl (by omega) (by omega) (by rw [hz2]; omega) (by unfold maxLen; omega) (Nat.le_refl _) ?_; intro w4 hr4 hg4; have HB4 := Lib.hid ((Below.refl _ w2).grown hg4 (Nat.le_refl _) (by simp)); have HO4 : Hid (w4.ownsRow w2.heap.size 25 hdrC.sz (.slice (some ⟨w2.heap.size, 0, none⟩) N N) N (hdrC.all (List.replicate N ⟨none, 0, 0⟩))) := Lib.hid (by rw [← made_hdr]; exact hr4); clear hr4 hg4))
    go_loopw [22] (fun i wr => ∃ (k : Nat) (hs : List Hdr), k ≤ N ∧ i = .int .i64 k ∧ Hid (hs.length = N) ∧ Hid (wr.ownsRow w2.heap.size 25 hdrC.sz (.slice (some ⟨w2.heap.size, 0, none⟩) N N) N (hdrC.all hs)) ∧ Hid (RowsOk wr l N hs k (some w2.heap.size)) ∧ Hid (Below w2.heap.size w2 wr)) (fun i _ => N - (intOf i).toNat)
    case atStart => exact ⟨0, _, by omega, rfl, Lib.hid (by rw [List.length_replicate]), HO4, Lib.hid (fun j hj => absurd hj (by omega)), HB4⟩
    case round =>
      clear HO4 HB4
      obtain ⟨k, hs, hkn, rfl, HL, HO, HRO, HB⟩ := hrel
      have k0 : (0 : Int) ≤ (k : Int) := by omega
      by_cases hlt : k < N
      · have hlt' : (k : Int) < (N : Int) := by omega
        have HGW : Hid (w2.heap.size < wr.heap.size) := Lib.hid (own_lt HO.out).1
        go_wp2_with fail
        refine (labels_any N _ (k : Int) wr _ _ G (fromE l) (HG.out.stays HB.out) (good_graph HGD.out) ⟨by omega, by omega⟩ hN (by have := rem_le l N; rw [HM.out] at this; omega)).mono ?_
        rintro e w5 ⟨v, out, rfl, ho, hok, hb5⟩
        obtain ⟨Ao, co, rfl, _⟩ := ownsRow_slice ho
        have HLO := Lib.hid (SAt.own ho (by decide))
        have HDP := Lib.hid (dist_plain hN (by omega) HGD.out (by rw [HM.out]; exact hm) hok)
        have HO5 := Lib.hid (ownsRow_stays HO.out hb5)
        have HRO5 := Lib.hid (HRO.out.stays hb5)
        have HB5 := Lib.hid (bthen HB.out hb5 (Nat.le_refl _))
        have HG5 : Hid (w2.heap.size < w5.heap.size) := Lib.hid (Nat.lt_of_lt_of_le HGW.out hb5.size)
        clear ho hok hb5 HO HRO HB HGW
        go_wp2_with fail
        refine (lengths_at Ao N co out w5 HLO.out (by omega)).mono ?_
        rintro e w6 ⟨rfl, hi6, hs6, hb6⟩
        rw [HDP.out] at hi6
        obtain ⟨X, hX⟩ : ∃ X, X = w5.heap.size := ⟨_, rfl⟩
        have HO6 := Lib.hid (ownsRow_stays HO5.out hb6)
        have HRO6 := Lib.hid (HRO5.out.stays hb6)
        have HB6 := Lib.hid (bthen HB5.out hb6 (Nat.le_refl _))
        have HG6 := HG5.out
        rw [← hX] at hi6 hs6 HG6 ⊢
        have HRO7 := Lib.hid (HRO6.out.put (c := N) (by rw [HL.out]; exact hlt) hi6 (fun ad hA => by injection hA with hA; subst hA; exact ⟨fun e => by injection e with e; simp at e; omega, hs6⟩) k (.slice (some ⟨X, 0, none⟩) N N))
        have HO7 := Lib.hid (hdr_put HO6.out (by rw [HL.out]; exact hlt) ⟨some ⟨X, 0, none⟩, N, N⟩)
        obtain ⟨q0, q1⟩ := hdr_own HO6.out hlt
        clear hi6 hs6 hb6 hX HG5 HG6 HRO5 HO5 HB5
        go_wp2
        go_roundw
        case rel => exact ⟨k + 1, _, by omega, by go_num, Lib.hid (by rw [List.length_set, HL.out]), HO7, HRO7, Lib.hid (HB6.out.setCell (p := ⟨w2.heap.size, k, none⟩) (Nat.le_refl _) _)⟩
        case measure => simp [intOf]; omega
      · obtain rfl : k = N := by omega
        have hd0 : ¬ ((k : Int) < (k : Int)) := by omega
        go_wp2
        go_ret2
        refine ⟨fun h => absurd HR.out h, fun _ => ⟨_, _, hs, by rw [Int.toNat_natCast]; rfl, by rw [Int.toNat_natCast]; exact SAt.own HO.out (by decide), fun j hj => ?_⟩, bthen HB2.out HB.out (Nat.le_refl _)⟩
        rw [Int.toNat_natCast] at hj ⊢
        exact ⟨(HRO.out j hj).1, (HRO.out j hj).2.1⟩
  · clear hr
    go_wp2
    go_ret2
    exact ⟨fun _ => by rw [HR.out]; rfl, fun h => absurd (HR.out.symm.trans h) hr0, HB1.out⟩
end Go.Proofs.Ytabhinmodnmllaa
