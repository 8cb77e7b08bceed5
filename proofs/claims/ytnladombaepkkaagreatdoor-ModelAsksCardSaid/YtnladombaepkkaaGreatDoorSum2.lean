/- Contracts of small functions that the evaluator takes whole: the program's Get. Conditions: none. -/
import Derived.Test.YtnladombaepkkaaGreatDoorBun
import Derived.Test.YtnladombaepkkaaGreatDoorSum
set_option linter.all false
namespace Go.Proofs.YtnladombaepkkaaGreatDoor
open Go Go.Abs
theorem place_ok (big : Bool) (k size : Nat) (h : k < size) (hs : size ≤ 100) (H : Heap) :
    SCalls Tryz.prog 127 [.ag [.b big], .i .i64 k, .i .i64 size] H (fun v K => v = .i .i64 ((if big then size - 1 - k else k : Nat) : Int) ∧ K = H) := by
  refine SCalls.drop ?_
  have e1 : IntKind.i64.wrap ((size : Int) - 1) = ((size - 1 : Nat) : Int) := by rw [w64 (by omega) (by omega)]; omega
  have e2 : IntKind.i64.wrap (((size - 1 : Nat) : Int) - (k : Int)) = ((size - 1 - k : Nat) : Int) := by rw [w64 (by omega) (by omega)]; omega
  have z1 : ¬ (1 = 0) := by omega
  cases big
  · refine SCalls.of_den (D := fun _ => []) (nt := 14) (res := [.tmp 6]) hC mix Tryz.func127 rfl rfl rfl rfl (by simp) fun Q hq1 hq2 => ?_; simp only [tmArgs]
    repeat (first | with_reducible refine den_seq ?_ | with_reducible refine den_skip ?_ | with_reducible refine den_scope ?_ | with_reducible refine den_block ?_ | with_reducible refine den_exit ?_ | with_reducible refine den_blk_nrm ?_ | with_reducible refine den_blk_ex ?_ | with_reducible refine den_blk_ret ?_ | with_reducible refine den_code_ex ?_ | with_reducible refine den_code_ret ?_ | with_reducible refine den_rd_ex ?_ | with_reducible refine den_rd_ret ?_ | with_reducible refine den_ret ?_ | ((with_reducible refine den_cond true ?_ (fun _ => ?_) (fun h => nomatch h)); focus (simp only [aev, Tr.get_put, Tr.get_leaf, Nat.reduceEqDiff, reduceIte, cAV, cAV1, AV.cells]; done)) | ((with_reducible refine den_cond false ?_ (fun h => nomatch h) (fun _ => ?_)); focus (simp only [aev, Tr.get_put, Tr.get_leaf, Nat.reduceEqDiff, reduceIte, cAV, cAV1, AV.cells]; done)) | ((with_reducible refine den_region fun nx hnx => ?_); simp only [List.toList_toArray, bB, aappend, anew, ↓awp, ↓aops, ↓aop, ↓aopV, aval, amake, astore, aload, ↓aput, aev, aevs, aparts, cAV, cAV1, cAVs, gval, ↓xthen, ↓xblock, abinop, aeqA, aeqV, aeqFs, aeqIs, aints, abin, astr, aoth, aeq1, isEq, eqTy, aun, aconv, aint, aslice, afield, aidx, aindex, amin, apart, afill, areps, AV.cells, AV.one, aones, TI.agg, tmArgs, ares, aresl, ares1, reduceIte, reduceCtorEq, Nat.reduceLT, Nat.reduceLeDiff, Nat.reduceEqDiff, Nat.reduceAdd, Nat.reduceSub, Nat.reduceMul, Nat.reduceBEq, Nat.reduceBNe, Nat.reduceBeqDiff, Int.reduceLT, Int.reduceLE, Int.reduceEq, Int.reduceNeg, Int.reduceAdd, Int.reduceSub, Int.reduceMul, Int.reduceToNat, Int.reduceNe, bA, abytes, bT, AV.cells]; with_reducible refine hnx _ _ ?_; clear hnx nx))
    exact hq2 _ _ ⟨.i .i64 k, by simp [ares, aresl, ares1, Tr.get_put], rfl, rfl, Heap.sub_alloc _ _⟩
  · refine SCalls.of_den (D := fun _ => []) (nt := 14) (res := [.tmp 6]) hC mix Tryz.func127 rfl rfl rfl rfl (by simp) fun Q hq1 hq2 => ?_; simp only [tmArgs]
    repeat (first | with_reducible refine den_seq ?_ | with_reducible refine den_skip ?_ | with_reducible refine den_scope ?_ | with_reducible refine den_block ?_ | with_reducible refine den_exit ?_ | with_reducible refine den_blk_nrm ?_ | with_reducible refine den_blk_ex ?_ | with_reducible refine den_blk_ret ?_ | with_reducible refine den_code_ex ?_ | with_reducible refine den_code_ret ?_ | with_reducible refine den_rd_ex ?_ | with_reducible refine den_rd_ret ?_ | with_reducible refine den_ret ?_ | ((with_reducible refine den_cond true ?_ (fun _ => ?_) (fun h => nomatch h)); focus (simp only [aev, Tr.get_put, Tr.get_leaf, Nat.reduceEqDiff, reduceIte, cAV, cAV1, AV.cells, e1, e2]; done)) | ((with_reducible refine den_cond false ?_ (fun h => nomatch h) (fun _ => ?_)); focus (simp only [aev, Tr.get_put, Tr.get_leaf, Nat.reduceEqDiff, reduceIte, cAV, cAV1, AV.cells, e1, e2]; done)) | ((with_reducible refine den_region fun nx hnx => ?_); simp only [List.toList_toArray, bB, aappend, anew, ↓awp, ↓aops, ↓aop, ↓aopV, aval, amake, astore, aload, ↓aput, aev, aevs, aparts, cAV, cAV1, cAVs, gval, ↓xthen, ↓xblock, abinop, aeqA, aeqV, aeqFs, aeqIs, aints, abin, astr, aoth, aeq1, isEq, eqTy, aun, aconv, aint, aslice, afield, aidx, aindex, amin, apart, afill, areps, AV.cells, AV.one, aones, TI.agg, tmArgs, ares, aresl, ares1, reduceIte, reduceCtorEq, Nat.reduceLT, Nat.reduceLeDiff, Nat.reduceEqDiff, Nat.reduceAdd, Nat.reduceSub, Nat.reduceMul, Nat.reduceBEq, Nat.reduceBNe, Nat.reduceBeqDiff, Int.reduceLT, Int.reduceLE, Int.reduceEq, Int.reduceNeg, Int.reduceAdd, Int.reduceSub, Int.reduceMul, Int.reduceToNat, Int.reduceNe, bA, abytes, bT, AV.cells, e1, e2]; with_reducible refine hnx _ _ ?_; clear hnx nx))
    exact hq2 _ _ ⟨.i .i64 (size - 1 - k : Nat), by simp [ares, aresl, ares1, Tr.get_put], rfl, rfl, Heap.sub_alloc _ _⟩
def getL : List UInt8 → Nat
  | [] => 0
  | b :: l => b.toNat + 256 * getL l
def getB (big : Bool) (s : List UInt8) : Nat := bif Nat.ble s.length 8 then (bif big then getL s.reverse else getL s) else 0
theorem getL_lt : ∀ l : List UInt8, getL l < 256 ^ l.length
  | [] => by simp [getL]
  | b :: l => by
    have ih := getL_lt l
    have hb := b.toNat_lt
    simp only [getL, List.length_cons, Nat.pow_succ]
    omega
theorem getL_snoc : ∀ (l : List UInt8) (b : UInt8), getL (l ++ [b]) = getL l + b.toNat * 256 ^ l.length
  | [], b => by simp [getL]
  | a :: l, b => by
    simp only [List.cons_append, getL, getL_snoc l b, List.length_cons, Nat.pow_succ]
    rw [Nat.mul_add, ← Nat.mul_assoc, Nat.add_assoc]
    congr 2
    rw [Nat.mul_comm 256, Nat.mul_assoc, Nat.mul_comm 256, ← Nat.mul_assoc]
theorem or_add (n b k : Nat) (hn : n < 256 ^ k) (hb : b < 256) (hk : k < 8) :
    IntKind.u64.wrap ((BitVec.ofInt IntKind.u64.bits (n : Int) ||| BitVec.ofInt IntKind.u64.bits ((b * 256 ^ k : Nat) : Int)).toNat : Int) = ((n + b * 256 ^ k : Nat) : Int) := by
  have h1 : 256 ^ k = 2 ^ (8 * k) := by rw [Nat.pow_mul]
  have h8 : 256 ^ (k + 1) ≤ 256 ^ 8 := Nat.pow_le_pow_right (by omega) (by omega)
  have hlt : n + b * 256 ^ k < 2 ^ 64 := by
    have : b * 256 ^ k ≤ 255 * 256 ^ k := Nat.mul_le_mul_right _ (by omega)
    have : 256 ^ (k + 1) = 256 * 256 ^ k := by rw [Nat.pow_succ, Nat.mul_comm]
    have : (256 : Nat) ^ 8 = 2 ^ 64 := by decide
    omega
  have hor : n ||| b * 256 ^ k = n + b * 256 ^ k := by
    rw [Nat.or_comm, Nat.add_comm, h1, Nat.mul_comm b]
    rw [h1] at hn
    exact (Nat.two_pow_add_eq_or_of_lt hn b).symm
  rw [show IntKind.u64.bits = 64 from rfl, BitVec.toNat_or]
  have e1 : (BitVec.ofInt 64 (n : Int)).toNat = n := by
    rw [BitVec.ofInt_natCast, BitVec.toNat_ofNat]; exact Nat.mod_eq_of_lt (by omega)
  have e2 : (BitVec.ofInt 64 ((b * 256 ^ k : Nat) : Int)).toNat = b * 256 ^ k := by
    rw [BitVec.ofInt_natCast, BitVec.toNat_ofNat]; exact Nat.mod_eq_of_lt (by omega)
  rw [e1, e2, hor]
  exact u64n _ hlt
end Go.Proofs.YtnladombaepkkaaGreatDoor
