/- The abstract machine: a heap and all that came behind it, as one list. Conditions: none. -/
import Derived.Test.YtnladombaepkkaaGreatDoorAbs28
set_option linter.all false
namespace Go.Abs
open Go
theorem Tr.one_put_self {α : Type} : ∀ (f k : Nat) (x y : Option α), k < f → (Tr.one f k x).put k y = Tr.one f k y
  | 0, _, _, _, h => by omega
  | f + 1, k, x, y, h => by
    rw [Tr.one_succ, Tr.one_succ]
    by_cases h0 : k = 0
    · rw [if_pos h0, if_pos h0, Tr.put_node, if_pos h0]
    · rw [if_neg h0, if_neg h0]
      by_cases h1 : k % 2 = 1
      · rw [if_pos h1, if_pos h1, Tr.put_node, if_neg h0, if_pos h1, Tr.one_put_self f _ _ _ (by omega)]
      · rw [if_neg h1, if_neg h1, Tr.put_node, if_neg h0, if_neg h1, Tr.one_put_self f _ _ _ (by omega)]
theorem Tr.put_put_self {α : Type} : ∀ (t : Tr α) (k : Nat) (x y : Option α), (t.put k x).put k y = t.put k y
  | .l, k, x, y => Tr.one_put_self _ k x y (by omega)
  | .n a v b, k, x, y => by
    rw [Tr.put_node, Tr.put_node]
    by_cases h0 : k = 0
    · rw [if_pos h0, if_pos h0, Tr.put_node, if_pos h0]
    · rw [if_neg h0, if_neg h0]
      by_cases h1 : k % 2 = 1
      · rw [if_pos h1, if_pos h1, Tr.put_node, if_neg h0, if_pos h1, Tr.put_put_self a]
      · rw [if_neg h1, if_neg h1, Tr.put_node, if_neg h0, if_neg h1, Tr.put_put_self b]
theorem Tr.one_fuel {α : Type} : ∀ (f g k : Nat) (x : Option α), k < f → k < g → Tr.one f k x = Tr.one g k x
  | 0, _, _, _, h, _ => by omega
  | _ + 1, 0, _, _, _, h => by omega
  | f + 1, g + 1, k, x, h, h' => by
    rw [Tr.one_succ, Tr.one_succ]
    by_cases h0 : k = 0
    · rw [if_pos h0, if_pos h0]
    · rw [if_neg h0, if_neg h0]
      by_cases h1 : k % 2 = 1
      · rw [if_pos h1, if_pos h1, Tr.one_fuel f g _ _ (by omega) (by omega)]
      · rw [if_neg h1, if_neg h1, Tr.one_fuel f g _ _ (by omega) (by omega)]
theorem Tr.one_put {α : Type} (f k : Nat) (x : Option α) (h : k < f) : Tr.one f k x = Tr.put .l k x := Tr.one_fuel _ _ _ _ h (by omega)
theorem Tr.put_leaf {α : Type} (k : Nat) (x : Option α) : (Tr.l : Tr α).put k x = if k = 0 then .n .l x .l else if k % 2 = 1 then .n (Tr.put .l (k / 2) x) none .l else .n .l none (Tr.put .l (k / 2 - 1) x) := by
  show Tr.one (k + 1) k x = _
  rw [Tr.one_succ]
  by_cases h0 : k = 0
  · rw [if_pos h0, if_pos h0]
  · rw [if_neg h0, if_neg h0]
    by_cases h1 : k % 2 = 1
    · rw [if_pos h1, if_pos h1, Tr.one_put _ _ _ (by omega)]
    · rw [if_neg h1, if_neg h1, Tr.one_put _ _ _ (by omega)]
theorem Tr.put_leaf_node {α : Type} (k : Nat) (x : Option α) : (Tr.l : Tr α).put k x = (Tr.n .l none .l).put k x := by
  rw [Tr.put_leaf, Tr.put_node]
/-- Two places that are not the same may be written in either order. -/
theorem Tr.put_comm {α : Type} : ∀ (n : Nat) (t : Tr α) (k j : Nat) (x y : Option α), k + j ≤ n → k ≠ j → (t.put k x).put j y = (t.put j y).put k x := by
  intro n
  induction n with
  | zero => intro t k j x y h hn; omega
  | succ n ih =>
    have node : ∀ (a b : Tr α) (v : Option α) (k j : Nat) (x y : Option α), k + j ≤ n + 1 → k ≠ j → ((Tr.n a v b).put k x).put j y = ((Tr.n a v b).put j y).put k x := by
      intro a b v k j x y h hn
      simp only [Tr.put_node]
      by_cases k0 : k = 0 <;> by_cases j0 : j = 0 <;> by_cases k1 : k % 2 = 1 <;> by_cases j1 : j % 2 = 1 <;> simp only [k0, j0, k1, j1, if_true, if_false, Tr.put_node] <;> first | rfl | (exfalso; omega) | skip
      all_goals first
        | (rw [ih _ _ _ _ _ (by omega) (by omega)])
        | (simp_all)
    intro t k j x y h hn
    cases t with
    | n a v b => exact node a b v k j x y h hn
    | l => rw [Tr.put_leaf_node, Tr.put_leaf_node j, node _ _ _ _ _ _ _ h hn]
end Go.Abs
