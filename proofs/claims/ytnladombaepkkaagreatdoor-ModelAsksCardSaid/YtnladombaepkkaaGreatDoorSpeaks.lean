/- The preface speaks, by the evaluator. Conditions: none. -/
import Derived.Test.YtnladombaepkkaaGreatDoorSum4
import Derived.Test.YtnladombaepkkaaGreatDoorAbsD
set_option linter.all false
namespace Go.Proofs.YtnladombaepkkaaGreatDoor
open Go Go.Abs
def ints (l : List Int) : Blk := ⟨l.map (AV.i .i64), false⟩
/-- The program's own tables, as they stand before the first call. -/
def H0 : Heap := ⟨9, ((((((Tr.l.put 0 (some (ints [2, 2, 4, 0, 0, 0, 4, 2, 2, 2, 2, 2, 2]))).put 1 (some (ints [4, 4, 0, 0, 0, 0, 4, 4, 0, 0]))).put 2 (some (ints [4, 4, 0, 0, 0, 0, 0, 0]))).put 3 (some (ints [4, 0, 0, 0, 0, 0, 4, 0]))).put 4 (some (ints [4, 1, 1, 2, 0, 0]))).put 5 (some (ints [4, 0, 0, 1, 1, 2])))⟩
theorem flat_ints (l : List Int) : AVs.flat (l.map (AV.i .i64)) = true := by
  induction l with
  | nil => rfl
  | cons a l ih => simp [AVs.flat, AV.flat, ih]
theorem H0_ro (b : Nat) (B : Blk) (h : H0.get b = some B) : B.wr = false ∧ AVs.flat B.cells = true := by
  have hl : b < 9 := Heap.lt_of_get h
  have e : ∀ l B, some (ints l) = some B → B.wr = false ∧ AVs.flat B.cells = true := by rintro l B ⟨rfl⟩; exact ⟨rfl, flat_ints l⟩
  have : b = 0 ∨ b = 1 ∨ b = 2 ∨ b = 3 ∨ b = 4 ∨ b = 5 ∨ b = 6 ∨ b = 7 ∨ b = 8 := by omega
  rcases this with rfl | rfl | rfl | rfl | rfl | rfl | rfl | rfl | rfl <;> first | exact e _ B h | cases h
def yes (r : Option (AV × Heap)) : Bool := match r with | some (.b t, _) => t | _ => false
theorem yes_ok {r : Option (AV × Heap)} (h : yes r = true) : ∃ H, r = some (.b true, H) := by
  unfold yes at h
  split at h
  · subst h; exact ⟨_, rfl⟩
  · cases h
set_option maxRecDepth 1000000 in
theorem speaks_ev : yes (evF EFs S0 C0 3000 40 7 [] H0) = true := by kernel_rfl
theorem speaks_ok {H : Heap} (hH : H0.Sub H) (hn : 9 ≤ H.next) : SCalls Tryz.prog 7 [] H (fun v K => v = .b true ∧ K = H) := by
  obtain ⟨K, hK⟩ := yes_ok speaks_ev
  refine SCalls.frame hH hn (Nat.le_of_ble_eq_true (by kernel_rfl)) H0_ro rfl ((ev_ok hK).mono ?_)
  rintro v K' ⟨rfl, rfl⟩
  exact ⟨rfl, rfl⟩
end Go.Proofs.YtnladombaepkkaaGreatDoor
