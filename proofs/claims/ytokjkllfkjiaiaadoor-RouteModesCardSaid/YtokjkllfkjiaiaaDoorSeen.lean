/-
  The first element with an error; which keys were seen before; a map that keeps them. Plain; no program in sight.
-/
import Derived.Test.YtokjkllfkjiaiaaDoorFn
import Derived.Test.YtokjkllfkjiaiaaDoorMem
import Derived.Maps.OwnSet
namespace Go.Proofs.YtokjkllfkjiaiaaDoor
open Go.RowKit
open Go.Maps (Keyed)
open Go.ChangeMaps Go.WideMaps Go.WideElems

/-- the first element with an error, or the number of elements -/
def badN (err : Nat → Int) (n : Nat) : Nat := firstN (fun k => decide (err k ≠ 0)) n
/-- the index that a check of at most M elements returns -/
def chkI (err : Nat → Int) (M n : Nat) : Int := if n ≤ M ∧ badN err n < n then (badN err n : Int) else 0
/-- the error that it returns -/
def chkE (err : Nat → Int) (M n : Nat) : Int := if n ≤ M then if badN err n < n then err (badN err n) else 0 else 5
/-- the elements before k are fine -/
def Fine (err : Nat → Int) (k : Nat) : Prop := ∀ j, j < k → err j = 0
theorem Fine.zero (err : Nat → Int) : Fine err 0 := fun _ h => absurd h (by omega)
theorem Fine.step {err : Nat → Int} {k : Nat} (h : Fine err k) (h2 : err k = 0) : Fine err (k + 1) := fun j hj => by
  by_cases e : j = k
  · subst e; exact h2
  · exact h j (by omega)
theorem chk_at {err : Nat → Int} {M n k : Nat} {e : Int} (hn : n ≤ M) (hk : k < n) (hb : Fine err k) (he : err k = e) (h0 : e ≠ 0) : chkI err M n = k ∧ chkE err M n = e := by
  have : badN err n = k := firstN_eq hk (by simp [he, h0]) (fun j hj => by simp [hb j hj])
  unfold chkI chkE
  rw [this, if_pos ⟨hn, hk⟩, if_pos hn, if_pos hk]
  exact ⟨rfl, he⟩
theorem chk_end {err : Nat → Int} {M n : Nat} (hn : n ≤ M) (hb : Fine err n) : chkI err M n = 0 ∧ chkE err M n = 0 := by
  have : badN err n = n := firstN_none (fun j hj => by simp [hb j hj])
  unfold chkI chkE
  rw [this, if_neg (by omega), if_pos hn, if_neg (by omega)]
  exact ⟨rfl, rfl⟩
theorem chk_big {err : Nat → Int} {M n : Nat} (hn : M < n) : chkI err M n = 0 ∧ chkE err M n = 5 := by
  unfold chkI chkE
  rw [if_neg (by omega), if_neg (by omega)]
  exact ⟨rfl, rfl⟩

section
variable {κ : Type} [DecidableEq κ]
/-- is x among the first k keys? -/
def seenB (key : Nat → κ) (k : Nat) (x : κ) : Bool := decide (∃ j, j < k ∧ key j = x)
/-- does key k stand before? -/
def dupB (key : Nat → κ) (k : Nat) : Bool := seenB key k (key k)
theorem seen_zero (key : Nat → κ) (x : κ) : seenB key 0 x = false := by simp [seenB]
theorem seen_same (key : Nat → κ) (k : Nat) : seenB key (k + 1) (key k) = true := by
  simp only [seenB, decide_eq_true_eq]
  exact ⟨k, by omega, rfl⟩
theorem seen_other {key : Nat → κ} {k : Nat} {x : κ} (h : key k ≠ x) : seenB key (k + 1) x = seenB key k x := by
  unfold seenB
  apply decide_eq_decide.2
  constructor
  · rintro ⟨j, hj, e⟩
    by_cases ek : j = k
    · subst ek; exact absurd e h
    · exact ⟨j, by omega, e⟩
  · rintro ⟨j, hj, e⟩
    exact ⟨j, by omega, e⟩
theorem dup_yes {key : Nat → κ} {j k : Nat} (hj : j < k) (h : key j = key k) : dupB key k = true := by
  simp only [dupB, seenB, decide_eq_true_eq]
  exact ⟨j, hj, h⟩
theorem dup_no {key : Nat → κ} {k : Nat} (h : ∀ j, j < k → key j ≠ key k) : dupB key k = false := by
  simp only [dupB, seenB, decide_eq_false_iff_not]
  rintro ⟨j, hj, e⟩
  exact h j hj e
theorem dup_inv {key : Nat → κ} {k : Nat} (h : dupB key k = false) : ∀ j, j < k → key j ≠ key k := fun j hj e => by
  rw [dup_yes hj e] at h
  cases h
/-- the first k keys, as a map reads -/
def SeenD (enc : κ → Lit) (ok : κ → Prop) (key : Nat → κ) (k : Nat) (D : DataW Unit) : Prop := ∀ x, ok x → D.atKey (enc x) (.lit (.bool false)) = .lit (.bool (seenB key k x))
theorem SeenD.zero (enc : κ → Lit) (ok : κ → Prop) (key : Nat → κ) : SeenD enc ok key 0 (.map []) := fun x _ => by rw [seen_zero]; rfl
theorem SeenD.step {enc : κ → Lit} {ok : κ → Prop} {key : Nat → κ} {k : Nat} {D : DataW Unit} (h : SeenD enc ok key k D) (hD : Maps.IsMap D) (hk : WideAt.IsKeyLit (enc (key k))) (hinj : ∀ x, ok x → enc (key k) = enc x → key k = x) :
    SeenD enc ok key (k + 1) (D.put (enc (key k)) (.lit (.bool true))) := fun x hx => by
  by_cases e : key k = x
  · subst e
    rw [Maps.atKey_put_same hD hk, seen_same]
  · rw [Maps.atKey_put_other (fun e2 => e (hinj x hx e2.symm)), seen_other e]
    exact h x hx
theorem SeenD.look {enc : κ → Lit} {ok : κ → Prop} {key : Nat → κ} {k : Nat} {D : DataW Unit} (h : SeenD enc ok key k D) (hk : ok (key k)) {c : Bool} (hat : D.atKey (enc (key k)) (.lit (.bool false)) = .lit (.bool c)) : dupB key k = c := by
  have := h (key k) hk
  rw [hat] at this
  injection this with this
  injection this with this
  exact this.symm
end
/-- strings as keys -/
def encS (s : ByteArray) : Lit := .string s.data.toList
theorem encS_inj {s t : ByteArray} (h : encS s = encS t) : s = t := by
  unfold encS at h
  injection h with h
  cases s
  cases t
  congr 1
  exact Array.ext' h
theorem SeenD.stepS {key : Nat → ByteArray} {k : Nat} {D : DataW Unit} (h : SeenD encS (fun _ => True) key k D) (hD : Maps.IsMap D) : SeenD encS (fun _ => True) key (k + 1) (D.put (.string (key k).data.toList) (.lit (.bool true))) :=
  h.step hD trivial (fun _ _ e => encS_inj e)
theorem SeenD.lookS {key : Nat → ByteArray} {k : Nat} {D : DataW Unit} (h : SeenD encS (fun _ => True) key k D) {c : Bool} (hat : D.atKey (.string (key k).data.toList) (.lit (.bool false)) = .lit (.bool c)) : dupB key k = c := h.look trivial hat

section
variable {H : Type} {P : Program}
theorem plainElem_bool_inv {e : TypeId} (he : P.underlying e = some .bool) {v : Value} {z : DataW H × List MemPlace} (h : plainElem P e v = some z) : ∃ a, v = .bool a ∧ z = (.lit (.bool a), []) := by
  unfold plainElem at h
  rw [he] at h
  cases v <;> simp at h
  exact ⟨_, rfl, h.symm⟩
/-- 'm[k]' at elements of type bool -/
theorem wpList_lookup_own_bool (w : World) {ops : Array Oper} {rest : List Oper} {o : Oper} {a : Act} {Q : Exit → Act → World → Prop}
    (hg : o.guard = none) (m x : Operand) (t : TypeId) (hop : o.op = Op.lookup t m x false)
    (k e : TypeId) (K : Keyed P k) (ht : P.underlying t = some (.map k e)) (he : P.underlying e = some .bool) (hz : (zeroValue e).run P w = .ok (.bool false) w) (b n : Nat) (D : DataW H)
    (hm : a.eval m = .map (some b)) (hown : w.ownsMap P k (plainElem P e) b n D) (key : Value) (kl : Lit) (hx : a.eval x = key) (hkey : keyOf P k key = some kl)
    (hK : ∀ c : Bool, D.atKey kl (.lit (.bool false)) = .lit (.bool c) → wpList P ops Q rest (a.put o.dst (.bool c)) w) :
    wpList P ops Q (o :: rest) a w := by
  refine wpList_plain hg fun K' hK' => ?_
  obtain ⟨v, ps, hrun, hv⟩ := hown.lookup K ht hz (plainElem_bool he false) hkey
  obtain ⟨c, rfl, hc⟩ := plainElem_bool_inv he hv
  simp only [Prod.mk.injEq] at hc
  unfold Oper.wp
  simp [execOp, hop, hm, hx, hrun, Result.andThen]
  exact hK' _ _ (hK c hc.1)
end
theorem str_yes {s t : ByteArray} (h : s = t) : (s.toList == t.toList) = true := by subst h; simp
theorem str_no {s t : ByteArray} (h : s ≠ t) : (s.toList == t.toList) = false := by
  rw [beq_eq_false_iff_ne]
  intro e
  rw [ByteArray.toList_eq, ByteArray.toList_eq] at e
  apply h
  cases s
  cases t
  congr 1
  exact Array.ext' e
end Go.Proofs.YtokjkllfkjiaiaaDoor
