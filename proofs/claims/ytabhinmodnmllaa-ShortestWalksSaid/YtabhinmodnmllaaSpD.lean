/-
  Push. Printed by gen/hp4.py.
-/
import Derived.Test.YtabhinmodnmllaaSpC
import Derived.Test.YtabhinmodnmllaaAppAt
import Derived.Deep.RegionLawGrows
import Derived.Deep.CutBlock
namespace Go.Proofs.Ytabhinmodnmllaa
open Go.RowKit

/-- node i rises -/
def swimN (lt : Lab → Lab → Bool) : Nat → List Node → Nat → List Node
  | 0, ns, _ => ns
  | f + 1, ns, i => if 0 < i ∧ bef lt (gn ns i) (gn ns ((i - 1) / 2)) = true then swimN lt f (swpN ns i ((i - 1) / 2)) ((i - 1) / 2) else ns
theorem swimN_zero {lt : Lab → Lab → Bool} {f : Nat} {ns : List Node} : swimN lt f ns 0 = ns := by
  cases f with
  | zero => rfl
  | succ f => rw [swimN, if_neg (by omega)]
theorem swimN_stop {lt : Lab → Lab → Bool} {f i : Nat} {ns : List Node} (h : bef lt (gn ns i) (gn ns ((i - 1) / 2)) = false) : swimN lt f ns i = ns := by
  cases f with
  | zero => rfl
  | succ f => rw [swimN, if_neg (fun e => by rw [h] at e; exact Bool.noConfusion e.2)]
theorem swimN_go {lt : Lab → Lab → Bool} {f i : Nat} {ns : List Node} (h0 : 0 < i) (h : bef lt (gn ns i) (gn ns ((i - 1) / 2)) = true) : swimN lt (f + 1) ns i = swimN lt f (swpN ns i ((i - 1) / 2)) ((i - 1) / 2) := by
  rw [swimN, if_pos ⟨h0, h⟩]
/-- the nodes behind a Push -/
def pushN (lt : Lab → Lab → Bool) (ns : List Node) (x : Lab) (pu : Int) : List Node := swimN lt (ns.length + 1) (ns ++ [⟨x, pu⟩]) ns.length
theorem node_info : (Try.prog.info? 70).map (fun i => (i.zero, i.size, i.bytes)) = some (some (.agg #[.int .i64 0, .int .i64 0, .int .i64 0, .int .i64 0]), 4, 32) := by kernel_rfl
theorem info_parts {o : Option TypeInfo} {z : Value} {s b : Nat} (h : o.map (fun i => (i.zero, i.size, i.bytes)) = some (some z, s, b)) : ∃ i, o = some i ∧ i.zero = some z ∧ i.size = s ∧ i.bytes = b := by
  cases o with
  | none => simp at h
  | some i =>
    simp at h
    exact ⟨i, rfl, h.1, h.2.1, h.2.2⟩
/-- what is true of the heap's row behind a call -/
def RowOk (w : World) (v v' : Value) : Prop := v'.ownBlock = v.ownBlock ∨ ∀ k, v'.ownBlock = some k → w.heap.size ≤ k
theorem own_far {w : World} {base e size n : Nat} {v : Value} {xs : List Value} (h : w.ownsRow base e size v n xs) {p : Addr} (hp : v.ownBlock ≠ some p.block) (u : Value) : (w.setCell p u).ownsRow base e size v n xs :=
  h.kept (row := some p.block) ⟨rfl, rfl, rfl, by simp [World.setCell], fun k _ hk => Below.heap_setCell w p u k (fun e => hk (by rw [e]))⟩ (.inr hp)
theorem heap_put {w8 : World} {base hb : Nat} {K : FuncId} {v8 : Value} {ns : List Node} {pu : Int} (hb0 : base ≤ hb) (c0 : w8.cell? ⟨hb, 0, none⟩ = some (.func (.func K) #[] #[])) {y1 : Value} (c1 : w8.cell? ⟨hb, 1, none⟩ = some y1) (c2 : w8.cell? ⟨hb, 2, none⟩ = some (.int .i64 pu))
    (f1 : w8.frozen? ⟨hb, 1, none⟩ = false) (f2 : w8.frozen? ⟨hb, 2, none⟩ = false) (hown : w8.ownsRow base 70 nodeC.sz v8 ns.length (nodeC.all ns)) (hne : v8.ownBlock ≠ some hb) :
    HeapAt (w8.setCell ⟨hb, 1, none⟩ v8) base hb K v8 ns pu := by
  have n1 : ∀ (a b : Nat), a ≠ b → (⟨hb, a, none⟩ : Addr) ≠ ⟨hb, b, none⟩ := fun a b h e => by injection e with _ e; exact h e
  exact ⟨hb0, (World.cell?_setCell_other _ _ _ _ (n1 1 0 (by omega))).trans c0, World.cell?_setCell_same _ _ _ c1, (World.cell?_setCell_other _ _ _ _ (n1 1 2 (by omega))).trans c2, by simpa using f1, by simpa using f2, own_far hown hne _, hne⟩
theorem HeapAt.setCnt {w : World} {base hb : Nat} {K : FuncId} {v : Value} {ns : List Node} {pu : Int} (h : HeapAt w base hb K v ns pu) (p2 : Int) : HeapAt (w.setCell ⟨hb, 2, none⟩ (.int .i64 p2)) base hb K v ns p2 := by
  have n1 : ∀ (a b : Nat), a ≠ b → (⟨hb, a, none⟩ : Addr) ≠ ⟨hb, b, none⟩ := fun a b h e => by injection e with _ e; exact h e
  exact ⟨h.hb0, (World.cell?_setCell_other _ _ _ _ (n1 2 0 (by omega))).trans h.less, (World.cell?_setCell_other _ _ _ _ (n1 2 1 (by omega))).trans h.row, World.cell?_setCell_same _ _ _ h.cnt, by simpa using h.fr1, by simpa using h.fr2, own_far h.own h.ne _, h.ne⟩
/-- what an append onto the heap's row leaves -/
theorem push_facts {w W w8 : World} {base hb : Nat} {K : FuncId} {v v8 : Value} {ns : List Node} {pu : Int} {tmp : Obj} (h : HeapAt W base hb K v ns pu) (hw : Below w.heap.size w W) (hg : (W.drew.alloc tmp).grownBy w8 v.ownBlock)
    (hr : v8.ownBlock = v.ownBlock ∨ ∀ k, v8.ownBlock = some k → (W.drew.alloc tmp).heap.size ≤ k) :
    (w8.cell? ⟨hb, 1, none⟩ = some v ∧ w8.frozen? ⟨hb, 1, none⟩ = false) ∧ (w8.cell? ⟨hb, 0, none⟩ = some (.func (.func K) #[] #[]) ∧ w8.cell? ⟨hb, 2, none⟩ = some (.int .i64 pu) ∧ w8.frozen? ⟨hb, 2, none⟩ = false ∧ v8.ownBlock ≠ some hb) ∧ RowOk w v v8 ∧ Asd hb v.ownBlock w w8 := by
  have h2 : HeapAt (W.drew.alloc tmp) base hb K v ns pu := h.drew.stays (al1 _ _)
  have hne : some hb ≠ v.ownBlock := fun e => h2.ne e.symm
  have hbk : w8.heap[hb]? = (W.drew.alloc tmp).heap[hb]? := hg.block hb h2.lt hne
  have hlt := h.lt
  have hsz : (W.drew.alloc tmp).heap.size = W.heap.size + 1 := by simp
  have hws := hw.size
  refine ⟨⟨(World.cell?_of_block (a := ⟨hb, 1, none⟩) hbk).trans h2.row, (World.frozen?_of_block (a := ⟨hb, 1, none⟩) hbk).trans h2.fr1⟩, ⟨(World.cell?_of_block (a := ⟨hb, 0, none⟩) hbk).trans h2.less, (World.cell?_of_block (a := ⟨hb, 2, none⟩) hbk).trans h2.cnt, (World.frozen?_of_block (a := ⟨hb, 2, none⟩) hbk).trans h2.fr2, ?_⟩, ?_, ?_⟩
  · rcases hr with hr | hr
    · rw [hr]; exact h.ne
    · intro e
      have := hr _ e
      omega
  · rcases hr with hr | hr
    · exact .inl hr
    · exact .inr fun k hk => by have := hr k hk; omega
  · refine ⟨hg.os.trans hw.os, hg.tape.trans hw.tape, hg.output.trans hw.output, Nat.le_trans hws (Nat.le_trans (by omega) hg.size), fun k hk e1 e2 => ?_⟩
    have h3 : (W.drew.alloc tmp).heap[k]? = W.heap[k]? := Below.heap_alloc W.drew tmp k (show k < W.heap.size by omega)
    exact (hg.block k (by omega) e2).trans (h3.trans (hw.block k hk))
set_option maxRecDepth 100000 in
set_option maxHeartbeats 4000000 in
theorem push_any (K : FuncId) (lt : Lab → Lab → Bool) (hK : LessFn K lt) (base hb : Nat) (v : Value) (ns : List Node) (pu : Nat) (x : Lab) (w : World) (h : HeapAt w base hb K v ns pu) (n : Nat) (hn : ns.length = n) (h1000 : n ≤ 1000) (hp1 : pu ≤ 100000) :
    Calls Try.prog 33 #[.pointer (some ⟨hb, 0, none⟩), .agg (la x)] w fun e w' => e = .returned (.tuple #[]) ∧ ∃ v', HeapAt w' base hb K v' (pushN lt ns x pu) ((pu + 1 : Nat) : Int) ∧ RowOk w v v' ∧ Asd hb v.ownBlock w w' := by
  obtain ⟨i0, hi, hz0, hz1, hz2⟩ := info_parts node_info
  have HK := Lib.hid hK
  have HN := Lib.hid hn
  have H0 := Lib.hid h
  obtain ⟨W, hW⟩ : ∃ W, W = w.alloc (.cells #[.int .i64 x.node, .int .i64 x.len, .int .i64 x.edges] 57) := ⟨_, rfl⟩
  have hbW : Below w.heap.size w W := by rw [hW]; exact al1 _ _
  have hsz : W.heap.size = w.heap.size + 1 := by rw [hW]; simp
  have x0 : W.cell? ⟨w.heap.size, 0, none⟩ = some (.int .i64 x.node) := by rw [hW, World.cell?_alloc_at _ _ _ _ rfl]; rfl
  have x1 : W.cell? ⟨w.heap.size, 1, none⟩ = some (.int .i64 x.len) := by rw [hW, World.cell?_alloc_at _ _ _ _ rfl]; rfl
  have x2 : W.cell? ⟨w.heap.size, 2, none⟩ = some (.int .i64 x.edges) := by rw [hW, World.cell?_alloc_at _ _ _ _ rfl]; rfl
  have hH := h.stays hbW

  obtain ⟨A, c, hv, hc⟩ := hH.slice
  rw [hn] at hv hc
  have c1 := hH.row
  have c2 := hH.cnt
  have q1 := fun o => (al2 (w := W) (a := ⟨hb, 1, none⟩) c1).1 o
  have q2 := fun o => (al2 (w := W) (a := ⟨hb, 2, none⟩) c2).1 o
  have q3 := fun o => (al2 (w := W) (a := ⟨w.heap.size, 0, none⟩) x0).1 o
  have q4 := fun o => (al2 (w := W) (a := ⟨w.heap.size, 1, none⟩) x1).1 o
  have q5 := fun o => (al2 (w := W) (a := ⟨w.heap.size, 2, none⟩) x2).1 o
  rw [hv] at c1 q1
  have hown := hH.own
  rw [hv, hn] at hown
  have HH := Lib.hid hH
  have HV := Lib.hid hv
  have HS := Lib.hid hsz
  have HW := Lib.hid hbW
  have HB0 := Lib.hid (Nat.le_of_lt (Nat.lt_of_le_of_lt h.hb0 h.lt))
  clear hK hn h hH hv hsz hbW
  go_enter Try.func33, Try.ntmps33
  go_upto_region 2 with fail
  rw [← hW]
  clear hW
  go_cut [0] (fun s0 wx => s0 = .pointer (some ⟨hb, 0, none⟩) ∧ ∃ v8, Hid (HeapAt wx base hb K v8 (ns ++ [⟨x, pu⟩]) pu) ∧ Hid (RowOk w v v8) ∧ Hid (Asd hb v.ownBlock w wx))
  case first =>
    go_region_law (first | (refine step_append_own_at rfl (.tmp 11) (.tmp 18) 66 rfl base 70 i0 (.agg #[.int .i64 0, .int .i64 0, .int .i64 0, .int .i64 0]) nodeC.sz 32 Try.underlying66 hi hz0 hz1 hz2 rfl (by decide) (.slice A n c) n (nodeC.all ns) (by simp [Act.eval]) (show (World.alloc W.drew _).ownsRow _ _ _ _ _ _ from hown.alloc _) ⟨W.heap.size, 0, none⟩ 1 1 (nodeC.cs ⟨x, pu⟩) (by simp [Act.eval]) rfl (cs_new nodeC W.drew ⟨x, pu⟩ _ _ rfl) (nodeC.one _) (by unfold maxLen; omega) (by omega) (by have := HB0.out; have := HS.out; simp; omega) ?_; intro v8 w8 hown8 hg8 hr8; obtain ⟨A8, c8, rfl, _⟩ := ownsRow_slice hown8; have HE := Lib.hid (push_facts (pu := pu) (HV.out ▸ HH.out) HW.out hg8 hr8); have HO8 := Lib.hid hown8; have e2 := HE.out.1; clear hown8 hg8 hr8))
    all_goals go_wp2_with fail
    all_goals go_meet
    all_goals exact ⟨rfl, _, Lib.hid (heap_put (ns := ns ++ [Node.mk x pu]) HH.out.hb0 HE.out.2.1.1 HE.out.1.1 HE.out.2.1.2.1 HE.out.1.2 HE.out.2.1.2.2.1 (by rw [nodeC.all_app, nodeC.all_one, List.length_append, HN.out]; exact HO8.out) HE.out.2.1.2.2.2), Lib.hid (HV.out ▸ HE.out.2.2.1), Lib.hid (by rw [HV.out]; exact HE.out.2.2.2.setCell _ _ (.inl rfl))⟩
  case rest =>
    obtain ⟨rfl, v8, HH8, HR8, HA8⟩ := hcut
    clear q1 q2 q3 q4 q5 c1 c2 x0 x1 x2 hown
    have HL0 : Hid ((ns ++ [Node.mk x (pu : Int)]).length = n + 1) := Lib.hid (by rw [List.length_append, HN.out]; rfl)
    have HP : Hid (pushN lt ns x pu = swimN lt (n + 1) (ns ++ [⟨x, pu⟩]) n) := Lib.hid (by unfold pushN; rw [HN.out])
    obtain ⟨N0, hN0⟩ : ∃ N0, N0 = ns ++ [Node.mk x (pu : Int)] := ⟨_, rfl⟩
    rw [← hN0] at HL0 HP HH8
    clear hN0
    have HH9 := Lib.hid (HH8.out.setCnt ((pu : Int) + 1))
    have HA9 : Hid (Asd hb v.ownBlock w (wc.setCell ⟨hb, 2, none⟩ (.int .i64 ((pu : Int) + 1)))) := Lib.hid (HA8.out.setCell _ _ (.inl rfl))
    obtain ⟨A8, c8, hv8, hc8⟩ := HH8.out.slice
    rw [HL0.out] at hv8 hc8
    have c2 := HH8.out.cnt
    have f2 := HH8.out.fr2
    have c1 := HH9.out.row
    rw [hv8] at c1
    obtain ⟨ow, how⟩ : ∃ ow, v8.ownBlock = ow := ⟨_, rfl⟩
    have HOW := Lib.hid how
    have HV8 := Lib.hid hv8
    clear how hv8
    have hn1 : ((n + 1 : Nat) : Int) - 1 = (n : Int) := by omega
    have hcast : ((n + 1 : Nat) : Int) = (n : Int) + 1 := by omega
    obtain ⟨W9, hW9⟩ : ∃ W9, W9 = wc.setCell ⟨hb, 2, none⟩ (.int .i64 ((pu : Int) + 1)) := ⟨_, rfl⟩
    go_upto_block 0 with fail
    rw [← hW9]
    rw [← hW9] at HH9 HA9 c1
    clear hW9 c2 f2 c1 hcast
    go_wp2
    go_loopg [4] (n + 1) (fun g si wr => ∃ (i : Nat) (nk : List Node), si = .int .i64 i ∧ i ≤ n ∧ i + 1 ≤ g ∧ Hid (nk.length = n + 1) ∧ Hid (swimN lt (n + 1) N0 n = swimN lt g nk i) ∧ Hid (HeapAt wr base hb K v8 nk ((pu : Int) + 1)) ∧ Hid (Asd hb v.ownBlock w wr))
    case atStart => exact ⟨n, N0, by first | rfl | go_num, by omega, by omega, HL0, Lib.hid rfl, HH9, HA9⟩
    case round =>
      obtain ⟨i, nk, rfl, hin, hg, HL, HE, HHk, HAk⟩ := hrel
      have i0 : (0 : Int) ≤ (i : Int) := by omega
      obtain ⟨g2, rfl⟩ : ∃ g2, gk = g2 + 1 := ⟨gk - 1, by omega⟩
      by_cases h0 : 0 < i
      · have h0' : (0 : Int) < (i : Int) := by omega
        have h1' : (1 : Int) ≤ (i : Int) := by omega
        have h2' : (0 : Int) ≤ (i : Int) - 1 := by omega
        cases hb2 : bef lt (gn nk i) (gn nk ((i - 1) / 2))
        · have HF := Lib.hid (swimN_stop (f := g2 + 1) hb2)
          have HB2 := Lib.hid hb2
          clear hb2
          go_wp2_with fail
          refine (before_at K lt HK.out base hb v8 nk _ _ HHk.out (n + 1) i ((i - 1) / 2) _ _ HL.out rfl (by omega) (by omega) (by omega) false HB2.out).mono ?_
          rintro e w5 ⟨rfl, hb5⟩
          have HH5 := Lib.hid (HHk.out.stays hb5)
          have HA5 := Lib.hid (HAk.out.below hb5)
          clear hb5
          go_wp2
          (try simp only [Exit.inBlock, Exit.then])
          first | refine bodyPost_ret (results_none rfl _ _ _) rfl ?_ | refine bodyPost_end (results_none rfl _ _ _) rfl ?_
          exact ⟨rfl, v8, by rw [HP.out, HE.out, HF.out]; exact HH5.out, HR8.out, HA5.out⟩
        · have HF := Lib.hid (swimN_go (f := g2) h0 hb2)
          have HB2 := Lib.hid hb2
          clear hb2
          go_wp2_with fail
          refine (before_at K lt HK.out base hb v8 nk _ _ HHk.out (n + 1) i ((i - 1) / 2) _ _ HL.out rfl (by omega) (by omega) (by omega) true HB2.out).mono ?_
          rintro e w5 ⟨rfl, hb5⟩
          have HH5 := Lib.hid (HHk.out.stays hb5)
          have HA5 := Lib.hid (HAk.out.below hb5)
          clear hb5
          go_wp2_with fail
          refine (swap_at K base hb v8 nk _ _ HH5.out (n + 1) i ((i - 1) / 2) _ _ HL.out rfl (by omega) (by omega) (by omega)).mono ?_
          rintro e w6 ⟨rfl, hh6, ha6⟩
          have HH6 := Lib.hid hh6
          have HA6 := Lib.hid (HA5.out.trans ha6 (fun k hk => HR8.out.imp id (fun h => h k hk)))
          clear hh6 ha6
          go_wp2
          go_roundg g2
          case rel => exact ⟨(i - 1) / 2, _, by congr 1; omega, by omega, by omega, Lib.hid (by rw [swpN_len]; exact HL.out), Lib.hid (by rw [HE.out, HF.out]), HH6, HA6⟩
          case measure => omega
      · obtain rfl : i = 0 := by omega
        have HF := Lib.hid (swimN_zero (lt := lt) (f := g2 + 1) (ns := nk))
        go_wp2
        (try simp only [Exit.inBlock, Exit.then])
        first | refine bodyPost_ret (results_none rfl _ _ _) rfl ?_ | refine bodyPost_end (results_none rfl _ _ _) rfl ?_
        exact ⟨rfl, v8, by rw [HP.out, HE.out, HF.out]; exact HHk.out, HR8.out, HAk.out⟩
end Go.Proofs.Ytabhinmodnmllaa
