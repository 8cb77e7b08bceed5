/- Contract of graverref13.Sizes, by the evaluator. Conditions: none. -/
import Derived.Test.YtnladombaepkkaaGreatDoorSpeaks
set_option linter.all false
namespace Go.Proofs.YtnladombaepkkaaGreatDoor
open Go Go.Abs
def sizesV (w : Bool) : AV := if w then .tu [.i .u64 24, .i .u64 16, .i .u64 24] else .tu [.i .u64 16, .i .u64 8, .i .u64 12]
def isV (r : Option (AV × Heap)) (v : AV) : Bool := match r with | some (u, _) => avb u v | none => false
theorem isV_ok {r : Option (AV × Heap)} {v : AV} (h : isV r v = true) : ∃ H, r = some (v, H) := by
  unfold isV at h
  split at h
  · exact ⟨_, by rw [avb_eq _ _ h]⟩
  · cases h
set_option maxRecDepth 1000000 in
theorem sizes_ev1 : isV (evF EFs S0 C0 3000 40 20 [.b true] H0) (sizesV true) = true := by kernel_rfl
set_option maxRecDepth 1000000 in
theorem sizes_ev2 : isV (evF EFs S0 C0 3000 40 20 [.b false] H0) (sizesV false) = true := by kernel_rfl
theorem sizes_ok (w : Bool) {H : Heap} (hH : H0.Sub H) (hn : 9 ≤ H.next) : SCalls Tryz.prog 20 [.b w] H (fun v K => v = sizesV w ∧ K = H) := by
  refine SCalls.frame hH hn (Nat.le_of_ble_eq_true (by kernel_rfl)) H0_ro rfl ?_
  cases w
  · obtain ⟨K, hK⟩ := isV_ok sizes_ev2
    exact (ev_ok hK).mono (by rintro v K' ⟨rfl, rfl⟩; exact ⟨rfl, rfl⟩)
  · obtain ⟨K, hK⟩ := isV_ok sizes_ev1
    exact (ev_ok hK).mono (by rintro v K' ⟨rfl, rfl⟩; exact ⟨rfl, rfl⟩)
end Go.Proofs.YtnladombaepkkaaGreatDoor
