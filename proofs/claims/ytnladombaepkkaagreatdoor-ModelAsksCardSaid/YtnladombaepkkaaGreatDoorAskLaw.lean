/- What the law ModelAsks counts for itself, in plain lists. Conditions: none. -/
import Derived.Test.YtnladombaepkkaaGreatDoorTables
import Derived.Test.YtnladombaepkkaaGreatDoorFirsts
import Derived.Test.YtnladombaepkkaaGreatDoorAbsD
set_option linter.all false
namespace Go.Proofs.YtnladombaepkkaaGreatDoor
open Go Go.Abs
/-- Is a section told to be a table of names by one of these? -/
def nmP (i : Nat) (x : Sec) : Bool := x.h.type == 2 && x.h.link == IntKind.u64.wrap (i : Int)
def nmF (b : Bool) (i : Nat) (l : List Sec) : Bool := b || l.any (nmP i)
theorem nmF_cons (b : Bool) (i : Nat) (x : Sec) (l : List Sec) : nmF b i (x :: l) = (nmF b i l || nmP i x) := by
  simp only [nmF, List.any_cons]
  cases b <;> cases nmP i x <;> cases l.any (nmP i) <;> rfl
/-- The least of the marks that were looked at, from above. -/
def FA (p : Nat → Bool) (k n : Nat) (at' : Int) (there : Bool) : Prop :=
  (∃ j, k ≤ j ∧ j < n ∧ p j = true ∧ (∀ i, k ≤ i → i < j → p i = false) ∧ at' = j ∧ there = true) ∨ ((∀ i, k ≤ i → i < n → p i = false) ∧ at' = 0 ∧ there = false)
theorem FA.init (p : Nat → Bool) (n : Nat) : FA p n n 0 false := .inr ⟨fun i h1 h2 => by omega, rfl, rfl⟩
theorem FA.yes {p : Nat → Bool} {k n : Nat} (hk : k < n) (hp : p k = true) : FA p k n k true := .inl ⟨k, Nat.le_refl _, hk, hp, fun i h1 h2 => by omega, rfl, rfl⟩
theorem FA.no {p : Nat → Bool} {k n : Nat} {a : Int} {t : Bool} (h : FA p (k + 1) n a t) (hp : p k = false) : FA p k n a t := by
  have key : ∀ i, k ≤ i → i < k + 1 → p i = false := fun i h1 h2 => by rw [show i = k by omega]; exact hp
  rcases h with ⟨j, h1, h2, h3, h4, h5⟩ | ⟨h1, h2⟩
  · refine .inl ⟨j, by omega, h2, h3, fun i i1 i2 => ?_, h5⟩
    by_cases hi : i < k + 1
    · exact key i i1 hi
    · exact h4 i (by omega) i2
  · refine .inr ⟨fun i i1 i2 => ?_, h2⟩
    by_cases hi : i < k + 1
    · exact key i i1 hi
    · exact h1 i (by omega) i2
theorem FA.first {p : Nat → Bool} {n : Nat} {a : Int} {t : Bool} {v : AV} (h : FA p 0 n a t) (hv : FirstAt p n v) : v = .tu [.i .i64 a, .b t] := by
  rcases h with ⟨j, _, h2, h3, h4, rfl, rfl⟩ | ⟨h1, rfl, rfl⟩ <;> rcases hv with ⟨k, k1, k2, k3, rfl⟩ | ⟨k1, rfl⟩
  · have : j = k := by
      rcases Nat.lt_trichotomy j k with h | h | h
      · rw [k3 j h] at h3; cases h3
      · exact h
      · rw [h4 k (by omega) h] at k2; cases k2
    subst this; rfl
  · rw [k1 j h2] at h3; cases h3
  · rw [h1 k (by omega) k1] at k2; cases k2
  · rfl
theorem u64i (i : Nat) (h : i < 1000) : IntKind.u64.wrap (i : Int) = i := u64n i (by omega)
theorem marked_get (bs : List Bool) (l : Int) (i : Nat) (hi : i < bs.length) : (marked bs l)[i]? = some ((bs[i]?).getD false || (decide (0 < l) && decide (l = i))) := by
  have hb : bs[i]? = some bs[i] := List.getElem?_eq_getElem hi
  unfold marked
  split
  · rename_i hl
    rw [List.getElem?_set]
    by_cases h : l.toNat = i
    · have e : l = i := by omega
      rw [if_pos h, if_pos (by omega)]
      subst e; simp; right; omega
    · rw [if_neg h, hb]
      have : ¬ l = i := by omega
      simp [this]
  · rename_i hl
    rw [hb]
    by_cases h1 : 0 < l
    · have : ¬ l = i := by omega
      simp [this]
    · simp [h1]
theorem tabs_get (xs : List Sec) (hn : 2 ≤ xs.length) (hx : xs.length ≤ 20) (hg : ∀ x ∈ xs, x.h.type = 2 → 0 < x.h.link) (i : Nat) (hi : i < xs.length) : ∀ k, k ≤ xs.length → (tabsK 1 xs k)[i]? = some (nmF (decide (i = 1)) i (xs.take k))
  | 0, _ => by
    have : tabsK 1 xs 0 = marked (List.replicate xs.length false) 1 := rfl
    rw [this, marked_get _ _ _ (by simpa using hi)]
    simp only [List.take_zero, nmF, List.any_nil, Bool.or_false]
    rw [List.getElem?_replicate, if_pos hi]
    by_cases h : i = 1
    · subst h; rfl
    · have : ¬ (1 : Int) = i := by omega
      simp [h, this]
  | k + 1, hk => by
    have ih := tabs_get xs hn hx hg i hi k (by omega)
    have hkx : k < xs.length := by omega
    rw [tabsK_succ 1 xs hkx, List.take_succ_eq_append_getElem hkx]
    have hl := tabsK_length 1 xs k
    have hw := u64i i (by omega)
    have hnm : nmF (decide (i = 1)) i (xs.take k ++ [xs[k]]) = (nmF (decide (i = 1)) i (xs.take k) || nmP i xs[k]) := by
      simp only [nmF, List.any_append, List.any_cons, List.any_nil, Bool.or_false, Bool.or_assoc]
    rw [hnm]
    split
    · rename_i h2
      rw [marked_get _ _ _ (by omega), ih]
      have h0 := hg _ (List.getElem_mem hkx) h2
      simp only [Option.getD_some, nmP, h2, hw, h0, decide_true, Bool.true_and, beq_self_eq_true]
      congr 2
    · rename_i h2
      rw [ih]
      have : (xs[k].h.type == 2) = false := by simpa using h2
      simp [nmP, this]
end Go.Proofs.YtnladombaepkkaaGreatDoor
