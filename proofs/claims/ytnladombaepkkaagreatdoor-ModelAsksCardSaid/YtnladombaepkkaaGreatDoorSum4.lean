/- The summaries that the evaluator takes whole, and their truth. Conditions: none. -/
import Derived.Test.YtnladombaepkkaaGreatDoorSum3
import Derived.Test.YtnladombaepkkaaGreatDoorEv
set_option linter.all false
namespace Go.Proofs.YtnladombaepkkaaGreatDoor
open Go Go.Abs
def idxN : List UInt8 → Nat → Nat → Int
  | [], _, _ => -1
  | b :: l, c, k => bif Nat.beq b.toNat c then Int.ofNat k else idxN l c (k + 1)
theorem idxN_ok (c : Nat) (hc : c < 256) : ∀ (l : List UInt8) (k : Nat), idxB l c.toUInt8 k = idxN l c k
  | [], _ => rfl
  | b :: l, k => by
    simp only [idxB, idxN, idxN_ok c hc l]
    have : (b == c.toUInt8) = Nat.beq b.toNat c := by
      rw [Bool.eq_iff_iff]
      simp only [beq_iff_eq, Nat.beq_eq_true_eq]
      constructor
      · rintro rfl; simp; omega
      · intro h; have h := Nat.eq_of_beq_eq_true h; rw [← UInt8.toNat_inj, h]; simp; omega
    rw [this]
def S0 (f : FuncId) (args : List AV) : Option AV :=
  bif Nat.beq f 136 then (match args with
    | [.i .u64 (.ofNat x), .i .u64 (.ofNat y), .i .u64 (.ofNat c)] => bif Nat.ble c 1 then some (.tu [.i .u64 (.ofNat ((x + y + c) % 18446744073709551616)), .i .u64 (.ofNat ((x + y + c) / 18446744073709551616))]) else none
    | _ => none)
  else bif Nat.beq f 148 then (match args with | [.s l, .i .u8 (.ofNat c)] => bif Nat.blt c 256 then some (.i .i64 (idxN l c 0)) else none | _ => none)
  else bif Nat.beq f 58 then (match args with | [.b big, .i .u64 (.ofNat n), .i .i64 (.ofNat k)] => bif Nat.blt n 18446744073709551616 && Nat.ble k 100 then some (.s (putB big n k)) else none | _ => none)
  else bif Nat.beq f 98 then (match args with | [.ag [.b big], .s l] => bif Nat.ble l.length 140737488355327 then some (.i .u64 (.ofNat (getB big l))) else none | _ => none)
  else none
theorem S0_ok (f : FuncId) (args : List AV) (v : AV) (h : S0 f args = some v) (H : Heap) : SCalls Tryz.prog f args H (fun u K => u = v ∧ K = H) := by
  unfold S0 at h
  simp only [Bool.cond_eq_ite] at h
  split at h
  · rename_i hf; have := Nat.eq_of_beq_eq_true hf; subst this
    split at h
    · split at h
      · rename_i hc; have := Nat.le_of_ble_eq_true hc
        cases h
        exact (add64_ok _ _ _ (Int.natCast_nonneg _) (Int.natCast_nonneg _) (Int.natCast_nonneg _) (Int.ofNat_le.2 this) H).mono fun v K h => h
      · cases h
    · cases h
  split at h
  · rename_i hf; have := Nat.eq_of_beq_eq_true hf; subst this
    split at h
    · split at h
      · rename_i hc; simp [Nat.blt_eq] at hc
        cases h
        rw [← idxN_ok _ hc]
        exact indexByte_ok _ _ H
      · cases h
    · cases h
  split at h
  · rename_i hf; have := Nat.eq_of_beq_eq_true hf; subst this
    split at h
    · split at h
      · rename_i hc; simp [Nat.blt_eq] at hc
        cases h
        exact refPut_ok _ _ _ hc.1 hc.2 H
      · cases h
    · cases h
  split at h
  · rename_i hf; have := Nat.eq_of_beq_eq_true hf; subst this
    split at h
    · split at h
      · rename_i hc; simp at hc
        cases h
        exact refGet_ok _ _ hc H
      · cases h
    · cases h
  · cases h
theorem ev_ok {k n : Nat} {f : FuncId} {args : List AV} {H H' : Heap} {v : AV} (h : evF EFs S0 C0 k n f args H = some (v, H')) : SCalls Tryz.prog f args H (fun u K => u = v ∧ K = H') :=
  evF_ok hC mix EFs_ok S0_ok k n f args H v H' h
end Go.Proofs.YtnladombaepkkaaGreatDoor
