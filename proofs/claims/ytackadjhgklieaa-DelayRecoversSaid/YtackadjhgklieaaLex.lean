/-
  A cheap check for the lexical order of a long region: temporaries laid one after the other, each operation waits for what it looks at.
-/
import Derived.Deep.Quiet
import Derived.BigQuiet
namespace Go.Proofs.Ytackadjhgklieaa

def waits (md : Region.Mode) (o : Oper) (j : Nat) : Bool := o.after.any fun e => Region.binds md e && e.on == j
def looksNat (md : Region.Mode) (base r k : Nat) (o : Oper) (t : Nat) : Bool := (decide (t < base) && t != r) || (decide (base ≤ t) && decide (t < base + k) && waits md o (t - base))
def looksOk (md : Region.Mode) (base r k : Nat) (o : Oper) : Operand → Bool
  | .tmp t => looksNat md base r k o t
  | _ => true
def lexOne (md : Region.Mode) (base r n k : Nat) (o : Oper) : Bool :=
  (o.dst == some (base + k) || (o.dst == some r && decide (r < base ∧ k + 1 = n))) && o.after.all (fun e => !Region.binds md e || decide (e.on < k)) && o.op.operands.toList.all (looksOk md base r k o) &&
    (match o.guard with | some (g, _) => decide (g < k) && waits md o g | none => true)
def lexFast (md : Region.Mode) (base r n : Nat) : List Oper → Nat → Bool
  | [], _ => true
  | o :: l, k => lexOne md base r n k o && lexFast md base r n l (k + 1)

theorem lexFast_at (md : Region.Mode) (base r n : Nat) : ∀ (l : List Oper) (k : Nat), lexFast md base r n l k = true → ∀ i o, l[i]? = some o → lexOne md base r n (k + i) o = true
  | [], _, _, i, o, h => by simp at h
  | x :: l, k, h, 0, o, ho => by
    simp only [lexFast, Bool.and_eq_true] at h
    simp only [List.getElem?_cons_zero, Option.some.injEq] at ho
    subst ho
    exact h.1
  | x :: l, k, h, i + 1, o, ho => by
    simp only [lexFast, Bool.and_eq_true] at h
    simp only [List.getElem?_cons_succ] at ho
    have := lexFast_at md base r n l (k + 1) h.2 i o ho
    rw [show k + (i + 1) = k + 1 + i by omega]
    exact this

section
variable {md : Region.Mode} {base r : Nat} {ops : Array Oper}
/-- each operation is well laid -/
def LaidAll (md : Region.Mode) (base r : Nat) (ops : Array Oper) : Prop := ∀ i o, ops[i]? = some o → lexOne md base r ops.size i o = true
theorem laid_dst (h : LaidAll md base r ops) {i : Nat} {o : Oper} (ho : ops[i]? = some o) : o.dst = some (base + i) ∨ (o.dst = some r ∧ r < base ∧ i + 1 = ops.size) := by
  have := h i o ho
  simp only [lexOne, Bool.and_eq_true, Bool.or_eq_true, beq_iff_eq, decide_eq_true_eq] at this
  exact this.1.1.1
theorem laid_after (h : LaidAll md base r ops) {i : Nat} {o : Oper} (ho : ops[i]? = some o) : o.after.all (fun e => !Region.binds md e || decide (e.on < i)) = true := by
  have := h i o ho
  simp only [lexOne, Bool.and_eq_true] at this
  exact this.1.1.2
theorem laid_looks (h : LaidAll md base r ops) {i : Nat} {o : Oper} (ho : ops[i]? = some o) (t : Nat) (hj : t ∈ o.looksAt ops) : (t < base ∧ t ≠ r) ∨ (base ≤ t ∧ t < base + i ∧ waits md o (t - base) = true) := by
  have hh := h i o ho
  simp only [lexOne, Bool.and_eq_true] at hh
  obtain ⟨⟨_, h2⟩, h3⟩ := hh
  unfold Oper.looksAt at hj
  rcases List.mem_append.1 hj with hj | hj
  · obtain ⟨x, hx, hxe⟩ := List.mem_filterMap.1 hj
    have := List.all_eq_true.1 h2 x hx
    cases x <;> simp only [Option.some.injEq, reduceCtorEq] at hxe
    subst hxe
    simp only [looksOk, looksNat, Bool.or_eq_true, decide_eq_true_eq, Bool.and_eq_true, bne_iff_ne, ne_eq] at this
    rcases this with this | ⟨⟨h3, h4⟩, h5⟩
    · exact Or.inl this
    · exact Or.inr ⟨h3, h4, h5⟩
  · split at hj
    · rename_i g b hg
      rw [hg] at h3
      simp only [Bool.and_eq_true, decide_eq_true_eq] at h3
      cases hg' : ops[g]? with
      | none => rw [hg'] at hj; simp at hj
      | some og =>
        rw [hg'] at hj
        have hgi : i < ops.size := (Array.getElem?_eq_some_iff.1 ho).1
        rcases laid_dst h hg' with hd | ⟨_, _, hd⟩
        · simp only [Option.bind_some, hd, Option.toList_some, List.mem_singleton] at hj
          subst hj
          exact Or.inr ⟨Nat.le_add_right _ _, by omega, by rw [Nat.add_sub_cancel_left]; exact h3.2⟩
        · omega
    · simp at hj
theorem laid_free (h : LaidAll md base r ops) (listed : Array Bool) (k : Nat) (hk : k < ops.size) (hl : ∀ i, i < k → listed.getD i true = true) : Region.free md ops listed k = true := by
  unfold Region.free
  rw [Array.getElem?_eq_getElem hk]
  simp only [List.all_eq_true, List.mem_range, Bool.or_eq_true, beq_iff_eq]
  intro j hj
  by_cases e : j < k
  · exact Or.inl (Or.inr (hl j e))
  by_cases e2 : j = k
  · exact Or.inl (Or.inl e2)
  right
  rw [Array.getElem?_eq_getElem hj]
  have hok : ops[k]? = some ops[k] := Array.getElem?_eq_getElem hk
  have hoj : ops[j]? = some ops[j] := Array.getElem?_eq_getElem hj
  simp only [Bool.or_eq_true]
  by_cases hw : waits md ops[j] k = true
  · left
    unfold waits at hw
    exact hw
  right
  unfold Oper.apart
  have lx := fun t => laid_looks h hok t
  have ly := fun t => laid_looks h hoj t
  rcases laid_dst h hok with d1 | ⟨_, _, d1⟩
  · rcases laid_dst h hoj with d2 | ⟨d2, d3, d4⟩
    · rw [d1, d2]
      simp only [Bool.and_eq_true, Bool.not_eq_true', List.contains_eq_mem, decide_eq_false_iff_not, bne_iff_ne, ne_eq, Option.some.injEq]
      refine ⟨⟨fun hm => ?_, by omega⟩, fun hm => ?_⟩
      · rcases ly _ hm with hq | ⟨_, _, hq⟩
        · omega
        · rw [Nat.add_sub_cancel_left] at hq
          exact hw hq
      · rcases lx _ hm with hq | ⟨_, hq, _⟩ <;> omega
    · rw [d1, d2]
      simp only [Bool.and_eq_true, Bool.not_eq_true', List.contains_eq_mem, decide_eq_false_iff_not, bne_iff_ne, ne_eq, Option.some.injEq]
      refine ⟨⟨fun hm => ?_, by omega⟩, fun hm => ?_⟩
      · rcases ly _ hm with hq | ⟨_, _, hq⟩
        · omega
        · rw [Nat.add_sub_cancel_left] at hq
          exact hw hq
      · rcases lx _ hm with hq | ⟨hq, _, _⟩
        · exact hq.2 rfl
        · omega
  · omega
theorem laid_ready (h : LaidAll md base r ops) (listed : Array Bool) (k : Nat) (hk : k < ops.size) (hl : ∀ i, i < k → listed.getD i false = true) (hu : listed.getD k true = false) : (Region.ready md ops listed).contains k = true := by
  unfold Region.ready
  simp only [List.contains_eq_mem, decide_eq_true_eq, List.mem_filter, List.mem_range, hk, true_and, Array.getElem?_eq_getElem hk, Option.map_some, Option.getD_some, Bool.and_eq_true, Bool.not_eq_true']
  refine ⟨hu, ?_⟩
  have := laid_after h (Array.getElem?_eq_getElem hk)
  rw [Array.all_eq_true'] at this ⊢
  intro e he
  have := this e he
  simp only [Bool.or_eq_true, decide_eq_true_eq] at this ⊢
  rcases this with this | this
  · exact Or.inl this
  · exact Or.inr (hl _ this)
theorem laid_from (h : LaidAll md base r ops) : ∀ (n k : Nat) (listed : Array Bool), k + n = ops.size → listed.size = ops.size → (∀ i, i < k → listed[i]? = some true) → (∀ i, k ≤ i → i < ops.size → listed[i]? = some false) →
    Region.lexFrom md ops n k listed = true
  | 0, k, listed, hn, hs, ht, hf => by
    unfold Region.lexFrom Region.ready
    rw [List.isEmpty_iff, List.filter_eq_nil_iff]
    intro i hi
    rw [List.mem_range] at hi
    rw [Array.getD_eq_getD_getElem?, ht i (by omega)]
    simp
  | n + 1, k, listed, hn, hs, ht, hf => by
    unfold Region.lexFrom
    have h1 := laid_ready h listed k (by omega) (fun i hi => by rw [Array.getD_eq_getD_getElem?, ht i hi]; rfl) (by rw [Array.getD_eq_getD_getElem?, hf k (by omega) (by omega)]; rfl)
    have h2 := laid_free h listed k (by omega) (fun i hi => by rw [Array.getD_eq_getD_getElem?, ht i hi]; rfl)
    rw [h1, h2, Bool.true_and, Bool.true_and]
    refine laid_from h n (k + 1) _ (by omega) (by rw [Array.size_setIfInBounds]; exact hs) ?_ ?_
    · intro i hi
      rw [Array.getElem?_setIfInBounds]
      by_cases e : k = i
      · rw [if_pos e, if_pos (by omega)]
      · rw [if_neg e]
        exact ht i (by omega)
    · intro i hi hi2
      rw [Array.getElem?_setIfInBounds, if_neg (by omega)]
      exact hf i (by omega) hi2
theorem lexB_fast (base r : Nat) (hs : Region.noSelect ops = true) (h : lexFast md base r ops.size ops.toList 0 = true) : Region.lexB md ops = true := by
  unfold Region.lexB
  rw [hs, Bool.true_and]
  refine laid_from (base := base) (r := r) (fun i o ho => ?_) _ 0 _ (by omega) (by simp) (fun i hi => by omega) (fun i _ hi => ?_)
  · have := lexFast_at md base r ops.size ops.toList 0 h i o (by simpa using ho)
    rw [Nat.zero_add] at this
    exact this
  · simp [hi]
end
/-- a drawn region that only reads, long, its operations written out -/
theorem wp_region_quiet_long {P : Program} {id : Nat} {Q : Exit → Act → World → Prop} {a : Act} {w : World} {l : List Oper} (base r : Nat) (hm : P.follows .mixedOrders = true) (hs : Region.noSelect l.toArray = true) (hB : lexFast .any base r l.length l 0 = true)
    (h : wpQuiet P l.toArray (fun w' => ∃ n, w' = w.drewN n) (fun a' => ∀ w', (∃ n, w' = w.drewN n) → Q .normal a' w') l a) : (Code.region id l.toArray true).wp P Q a w :=
  wp_region_quiet_lit hm (lexB_fast base r hs hB) h
end Go.Proofs.Ytackadjhgklieaa
