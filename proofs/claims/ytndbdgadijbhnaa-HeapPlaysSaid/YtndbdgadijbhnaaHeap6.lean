/-
  Drain. Printed by gen/hp6.py.
-/
import Derived.Test.YtndbdgadijbhnaaHeap5
namespace Go.Proofs.Ytndbdgadijbhnaa
open Go.RowKit

theorem swpN_take_len {ns : List Node} {m i k : Nat} (hn : ns.length = m + 1) : ((swpN ns i k).take m).length = m := by rw [List.length_take, swpN_len, hn]; omega
theorem sinkN_len (lt : Pair → Pair → Bool) (f : Nat) (ns : List Node) (i : Nat) : (sinkN lt f ns i).length = ns.length := by
  induction f generalizing ns i with
  | zero => rfl
  | succ f ih =>
    rw [sinkN]
    split
    · rfl
    · split
      · rw [ih, swpN_len]
      · rfl
theorem popN_len {lt : Pair → Pair → Bool} {ns : List Node} {m : Nat} (hn : ns.length = m + 1) : (popN lt ns).length = m := by
  unfold popN
  rw [sinkN_len, hn]
  exact swpN_take_len hn
theorem swimN_len (lt : Pair → Pair → Bool) (f : Nat) (ns : List Node) (i : Nat) : (swimN lt f ns i).length = ns.length := by
  induction f generalizing ns i with
  | zero => rfl
  | succ f ih =>
    rw [swimN]
    split
    · rw [ih, swpN_len]
    · rfl
theorem pushN_len (lt : Pair → Pair → Bool) (ns : List Node) (x : Pair) (pu : Int) : (pushN lt ns x pu).length = ns.length + 1 := by
  unfold pushN
  rw [swimN_len, List.length_append]
  rfl
/-- what Drain hands back -/
def drainL (lt : Pair → Pair → Bool) : Nat → List Node → List Pair
  | 0, _ => []
  | f + 1, ns => (gn ns 0).p :: drainL lt f (popN lt ns)
theorem drainL_len (lt : Pair → Pair → Bool) (f : Nat) (ns : List Node) : (drainL lt f ns).length = f := by
  induction f generalizing ns with
  | zero => rfl
  | succ f ih => rw [drainL, List.length_cons, ih]
theorem own_keep {w w' : World} {base e size n : Nat} {v : Value} {xs : List Value} (h : w.ownsRow base e size v n xs) (hk : ∀ k, v.ownBlock = some k → w'.heap[k]? = w.heap[k]?) : w'.ownsRow base e size v n xs := by
  refine ⟨h.1, ?_⟩
  rcases h.2 with h | ⟨g, cap, cur, hv, hg, hr, h3⟩
  · exact .inl h
  · exact .inr ⟨g, cap, cur, hv, hg, (hk g (by rw [hv]; rfl)).trans hr, h3⟩
theorem own_asd {w w' : World} {base e size n hb : Nat} {rb : Option Nat} {v : Value} {xs : List Value} (h : w.ownsRow base e size v n xs) (ha : Asd hb rb w w') (h1 : hb < base) (h2 : ∀ k, rb = some k → k < base) : w'.ownsRow base e size v n xs :=
  own_keep h fun k hk => by
    obtain ⟨a, b⟩ := h.lt k hk
    exact ha.block k b (by omega) (fun e => by have := h2 k e.symm; omega)
theorem HeapAt.keep {w w' : World} {base hb : Nat} {K : FuncId} {v : Value} {ns : List Node} {pu : Int} (h : HeapAt w base hb K v ns pu) (hbk : w'.heap[hb]? = w.heap[hb]?) (hrk : ∀ k, v.ownBlock = some k → w'.heap[k]? = w.heap[k]?) : HeapAt w' base hb K v ns pu :=
  h.turn hbk (own_keep h.own hrk)
/-- an append onto a row of others does nothing to the heap -/
theorem HeapAt.grown {w w' : World} {B base hb : Nat} {K : FuncId} {v : Value} {ns : List Node} {pu : Int} {row : Option Nat} {tmp : Obj} (h : HeapAt w base hb K v ns pu) (hg : (w.alloc tmp).grownBy w' row) (h1 : hb < B) (h2 : ∀ k, v.ownBlock = some k → k < B) (h3 : ∀ k, row = some k → B ≤ k) : HeapAt w' base hb K v ns pu := by
  have h' : HeapAt (w.alloc tmp) base hb K v ns pu := h.stays (al1 _ _)
  refine h'.keep (hg.block hb h'.lt fun e => ?_) fun k hk => hg.block k (h'.own.lt k hk).2 fun e => ?_
  · have := h3 hb e.symm
    omega
  · have := h3 k e.symm
    have := h2 k hk
    omega
theorem Asd.grown {hb : Nat} {rb row : Option Nat} {w0 w w' : World} {tmp : Obj} (h : Asd hb rb w0 w) (hg : (w.alloc tmp).grownBy w' row) (h3 : ∀ k, row = some k → w0.heap.size ≤ k) : Asd hb rb w0 w' := by
  have hs : (w.alloc tmp).heap.size = w.heap.size + 1 := by simp
  have hs0 := h.size
  have hs1 := hg.size
  refine ⟨hg.os.trans h.os, hg.tape.trans h.tape, hg.output.trans h.output, by omega, fun k hk e1 e2 => ?_⟩
  have h4 : (w.alloc tmp).heap[k]? = w.heap[k]? := Below.heap_alloc w tmp k (by omega)
  exact (hg.block k (by omega) (fun e => by have := h3 k e.symm; omega)).trans (h4.trans (h.block k hk e1 e2))
theorem pair_info : (Try.prog.info? 28).map (fun i => (i.zero, i.size, i.bytes)) = some (some (.agg #[.int .i64 0, .int .i64 0]), 2, 16) := by kernel_rfl

set_option maxRecDepth 100000 in
set_option maxHeartbeats 4000000 in
theorem drain_any (K : FuncId) (lt : Pair → Pair → Bool) (hK : LessFn K lt) (base hb : Nat) (v : Value) (ns : List Node) (pu : Int) (w : World) (h : HeapAt w base hb K v ns pu) (n : Nat) (hn : ns.length = n) (h1000 : n ≤ 1000) :
    Calls Try.prog 18 #[.pointer (some ⟨hb, 0, none⟩)] w fun e w' => ∃ vo v', e = .returned vo ∧ w'.ownsRow w.heap.size 28 pairC.sz vo n (pairC.all (drainL lt n ns)) ∧ HeapAt w' base hb K v' [] pu ∧ v'.ownBlock = v.ownBlock ∧ Asd hb v.ownBlock w w' := by
  obtain ⟨i0, hi, hz0, hz1, hz2⟩ := info_parts pair_info
  have H := Lib.hid h
  have HN := Lib.hid hn
  have HK := Lib.hid hK
  have HLH := Lib.hid h.lt
  have HRL : Hid (∀ k, v.ownBlock = some k → k < w.heap.size) := Lib.hid (fun k hk => (h.own.lt k hk).2)
  clear h hn hK
  go_enter Try.func18, Try.ntmps18
  go_wp2
  go_loopg [3] n (fun g so wr => ∃ (nk : List Node) (k : Nat) (vk : Value) (done : List Pair), k + g = n ∧ Hid (nk.length = g) ∧ Hid (done ++ drainL lt g nk = drainL lt n ns) ∧ Hid (done.length = k) ∧ Hid (wr.ownsRow w.heap.size 28 pairC.sz so k (pairC.all done)) ∧ Hid (HeapAt wr base hb K vk nk pu) ∧ Hid (vk.ownBlock = v.ownBlock) ∧ Hid (Asd hb v.ownBlock w wr))
  case atStart => exact ⟨ns, 0, v, [], by omega, HN, Lib.hid rfl, Lib.hid rfl, Lib.hid (World.ownsRow_nil _ _ _ _), H, Lib.hid rfl, Lib.hid (Asd.refl _ _ _)⟩
  case round =>
    obtain ⟨nk, k, vk, done, hkg, HL, HE, HD, HO, HH, HVB, HA⟩ := hrel
    cases gk with
    | zero =>
      go_wp2_with fail
      refine (len_any K base hb vk nk pu _ HH.out 0 HL.out).mono ?_
      rintro e w' ⟨rfl, rfl⟩
      go_wp2
      go_ret
      have hkn : k = n := hkg
      subst hkn
      have hnil : nk = [] := List.eq_nil_of_length_eq_zero HL.out
      have hdone : done = drainL lt k ns := by have := HE.out; rwa [drainL, List.append_nil] at this
      exact ⟨_, vk, rfl, hdone ▸ HO.out, hnil ▸ HH.out, HVB.out, HA.out⟩
    | succ g2 =>
      have hpos : (0 : Int) < ((g2 + 1 : Nat) : Int) := by omega
      go_wp2_with fail
      refine (len_any K base hb vk nk pu _ HH.out (g2 + 1) HL.out).mono ?_
      rintro e w' ⟨rfl, rfl⟩
      go_wp2_with fail
      refine (pop_any K lt HK.out base hb vk nk pu _ HH.out g2 HL.out (by omega)).mono ?_
      rintro e w1 ⟨rfl, v1, hh1, hvb1, ha1⟩
      have HVB1 := Lib.hid (hvb1.trans HVB.out)
      rw [HVB.out] at ha1
      have HO1 := Lib.hid (own_asd HO.out ha1 HLH.out HRL.out)
      have HA1 := Lib.hid (HA.out.trans ha1 (fun k hk => .inl rfl))
      have HH1 := Lib.hid hh1
      clear hh1 hvb1 ha1
      obtain ⟨W, hW⟩ : ∃ W, W = w1.alloc (.cells #[.int .i64 (gn nk 0).p.key, .int .i64 (gn nk 0).p.mark] 28) := ⟨_, rfl⟩
      have HX : Hid (Box2 W w1.heap.size (gn nk 0).p) := Lib.hid (by rw [hW]; exact Box2.new w1 _ _ _ rfl)
      have HO2 := Lib.hid (ownsRow_stays HO1.out (show Below w1.heap.size w1 W by rw [hW]; exact al1 _ _))
      have HH2 := Lib.hid (HH1.out.stays (show Below w1.heap.size w1 W by rw [hW]; exact al1 _ _))
      have HA2 := Lib.hid (HA1.out.below (show Below w1.heap.size w1 W by rw [hW]; exact al1 _ _))
      obtain ⟨x0, x1, _, _⟩ := HX.out
      go_upto_region 4 with fail
      rw [← hW]
      clear hW
      have hrow := HO2.out.lt
      go_wp2_with (at_builtin; refine wpList_append_own _ rfl _ _ 26 rfl w.heap.size 28 i0 (.agg #[.int .i64 0, .int .i64 0]) pairC.sz 16 Try.underlying26 hi hz0 hz1 hz2 rfl (by decide) _ _ _ rfl (HO2.out.alloc _) ⟨_, 0, none⟩ 1 1 (pairC.cs (gn nk 0).p) rfl rfl (cs_new pairC _ _ _ _ rfl) (pairC.one _) (by unfold maxLen; omega) (by omega) (by have := HA2.out.size; simp; omega) ?_; intro v8 w8 hown8 hg8 _)
      have HO8 : Hid (w8.ownsRow w.heap.size 28 pairC.sz v8 (k + 1) (pairC.all (done ++ [(gn nk 0).p]))) := Lib.hid (by rw [pairC.all_app, pairC.all_one]; exact hown8)
      have HH8 := Lib.hid (HH2.out.grown hg8 HLH.out (by rw [HVB1.out]; exact HRL.out) (fun k hk => (hrow k hk).1))
      have HA8 := Lib.hid (HA2.out.grown hg8 (fun k hk => (hrow k hk).1))
      clear hown8 hg8 hrow x0 x1
      go_wp2
      go_roundg g2
      case rel => exact ⟨popN lt nk, k + 1, _, done ++ [(gn nk 0).p], by omega, Lib.hid (popN_len HL.out), Lib.hid (by rw [← HE.out, drainL, List.append_assoc]; rfl), Lib.hid (by rw [List.length_append, HD.out]; rfl), HO8, HH8, HVB1, HA8⟩
      case measure => omega
end Go.Proofs.Ytndbdgadijbhnaa
