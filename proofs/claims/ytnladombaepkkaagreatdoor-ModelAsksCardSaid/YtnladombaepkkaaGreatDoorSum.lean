/- Contracts of small functions that the evaluator takes whole: math/bits.Add64, IndexByteString, the document's Put and the program's Get. Conditions: none. -/
import Derived.Test.YtnladombaepkkaaGreatDoorBun
import Derived.Test.YtnladombaepkkaaGreatDoorAbsD
import Derived.Test.YtnladombaepkkaaGreatDoorFacts
set_option linter.all false
namespace Go.Proofs.YtnladombaepkkaaGreatDoor
open Go Go.Abs
def idxB : List UInt8 → UInt8 → Nat → Int
  | [], _, _ => -1
  | b :: l, c, k => bif b == c then Int.ofNat k else idxB l c (k + 1)
theorem idx_range (s : List UInt8) (c : UInt8) : ∀ (l : List UInt8) (k : Nat), s.drop k = l →
    (match (List.range' k l.length).find? (fun i => (ByteArray.mk s.toArray)[i]! == c) with | some i => (i : Int) | none => -1) = idxB l c k
  | [], k, _ => by simp [idxB]
  | b :: l, k, h => by
    have hk : k < s.length := by
      rcases Nat.lt_or_ge k s.length with h' | h'
      · exact h'
      · rw [List.drop_of_length_le h'] at h; cases h
    have hb : s[k] = b := by rw [List.drop_eq_getElem_cons hk] at h; exact (List.cons.inj h).1
    have hl : s.drop (k + 1) = l := by rw [List.drop_eq_getElem_cons hk] at h; exact (List.cons.inj h).2
    have hg : (ByteArray.mk s.toArray)[k]! = b := by
      rw [getElem!_pos (ByteArray.mk s.toArray) k (by simpa [ByteArray.size] using hk)]
      rw [← hb]; rfl
    simp only [List.length_cons, List.range'_succ, List.find?_cons, hg, idxB]
    cases hc : (b == c) with
    | true => simp
    | false =>
      simp only [cond_false]
      exact idx_range s c l (k + 1) hl
theorem firstIdx_eq (s : List UInt8) (c : UInt8) : firstIdx ⟨s.toArray⟩ c = idxB s c 0 := by
  unfold firstIdx
  have := idx_range s c s 0 rfl
  have hs : (ByteArray.mk s.toArray).size = s.length := List.size_toArray
  rw [hs, List.range_eq_range']
  exact this
theorem indexByte_ok (l : List UInt8) (c : Int) (H : Heap) : SCalls Tryz.prog 148 [.s l, .i .u8 c] H (fun v K => v = .i .i64 (idxB l c.toNat.toUInt8 0) ∧ K = H) := by
  refine SCalls.of_extern (e := Extern.BytealgIndexByte.indexByte) Tryz.func148 rfl rfl (by kernel_rfl) (by kernel_rfl) rfl ?_
  intro r w x hx
  simp only [VRL, VR] at hx
  obtain ⟨_, _, rfl, rfl, _, _, rfl, rfl, rfl⟩ := hx
  refine ⟨_, run_indexByte_string _ _ _, ?_⟩
  rw [firstIdx_eq]
  exact VR.int _ _
theorem add64_ok (x y c : Int) (hx : 0 ≤ x) (hy : 0 ≤ y) (hc : 0 ≤ c) (hc1 : c ≤ 1) (H : Heap) : SCalls Tryz.prog 136 [.i .u64 x, .i .u64 y, .i .u64 c] H
    (fun v K => v = .tu [.i .u64 ((x + y + c) % 18446744073709551616), .i .u64 ((x + y + c) / 18446744073709551616)] ∧ K = H) := by
  refine SCalls.of_extern (e := add64Entry) Tryz.func136 rfl rfl (by kernel_rfl) (by kernel_rfl) rfl ?_
  intro r w z hz
  simp only [VRL, VR] at hz
  obtain ⟨_, _, rfl, rfl, _, _, rfl, rfl, _, _, rfl, rfl, rfl⟩ := hz
  refine ⟨_, run_add64 x y c hx hy hc hc1 w, ?_⟩
  simp only [VR, VRL]
  exact ⟨[_, _], rfl, _, _, rfl, rfl, _, _, rfl, rfl, rfl⟩

def putL : Nat → Nat → List UInt8
  | 0, _ => []
  | k + 1, n => UInt8.ofNat (n % 256) :: putL k (n / 256)
def putB (big : Bool) (n size : Nat) : List UInt8 := bif Nat.ble size 8 then (bif big then (putL size n).reverse else putL size n) else []
theorem putL_succ : ∀ (k n : Nat), putL (k + 1) n = putL k n ++ [UInt8.ofNat (n / 256 ^ k % 256)]
  | 0, n => by simp [putL]
  | k + 1, n => by
    have ih := putL_succ k (n / 256)
    simp only [putL] at ih ⊢
    rw [ih]
    simp only [List.cons_append]
    rw [Nat.div_div_eq_div_mul, Nat.pow_succ, Nat.mul_comm 256]
theorem putL_length : ∀ (k n : Nat), (putL k n).length = k
  | 0, _ => rfl
  | k + 1, n => by simp [putL, putL_length k]
def putS (big : Bool) (k n : Nat) : List UInt8 := if big then (putL k n).reverse else putL k n

theorem wrap_u8 {n : Int} (h0 : 0 ≤ n) (h1 : n < 256) : IntKind.u8.wrap n = n := by
  simp [IntKind.wrap, IntKind.signed, IntKind.bits]
  omega
theorem w64 {n : Int} (h0 : 0 ≤ n) (h1 : n ≤ 140737488355328) : IntKind.i64.wrap n = n := wrap64_of h0 h1
theorem wu64 {n : Int} (h0 : 0 ≤ n) (h1 : n < 18446744073709551616) : IntKind.u64.wrap n = n := by
  simp [IntKind.wrap, IntKind.signed, IntKind.bits]
  omega
theorem u64n (M : Nat) (h : M < 18446744073709551616) : IntKind.u64.wrap (M : Int) = M := wu64 (Int.natCast_nonneg _) (by omega)
theorem u8n (M : Nat) (h : M < 256) : IntKind.u8.wrap (M : Int) = M := wrap_u8 (Int.natCast_nonneg _) (by omega)
theorem i64n (M : Nat) (h : M ≤ 140737488355328) : IntKind.i64.wrap (M : Int) = M := w64 (Int.natCast_nonneg _) (by omega)
theorem i64s (M : Nat) (h : M < 140737488355328) : IntKind.i64.wrap ((M : Int) + 1) = ((M + 1 : Nat) : Int) := i64n (M + 1) h
theorem sub_trans {a b c : Heap} (h : a.Sub b) (k : b.Sub c) : a.Sub c := fun x y h' => k x y (h x y h')
theorem refPut_ok (big : Bool) (n : Nat) (size : Nat) (hn : n < 18446744073709551616) (hs : size ≤ 100) (H : Heap) :
    SCalls Tryz.prog 58 [.b big, .i .u64 n, .i .i64 size] H (fun v K => v = .s (putB big n size) ∧ K = H) := by
  refine SCalls.drop ?_
  refine SCalls.of_den (D := fun _ => []) (nt := 34) (res := [.tmp 6]) hC mix Tryz.func58 rfl rfl rfl rfl (by simp) fun Q hq1 hq2 => ?_; simp only [tmArgs]
  repeat (first | with_reducible refine den_seq ?_ | with_reducible refine den_skip ?_ | with_reducible refine den_scope ?_ | with_reducible refine den_block ?_ | with_reducible refine den_exit ?_ | with_reducible refine den_blk_nrm ?_ | with_reducible refine den_blk_ex ?_ | with_reducible refine den_blk_ret ?_ | with_reducible refine den_code_ex ?_ | with_reducible refine den_code_ret ?_ | with_reducible refine den_rd_ex ?_ | with_reducible refine den_rd_ret ?_ | with_reducible refine den_ret ?_ | ((with_reducible refine den_cond true ?_ (fun _ => ?_) (fun h => nomatch h)); focus (simp only [aev, Tr.get_put, Tr.get_leaf, Nat.reduceEqDiff, reduceIte, cAV, cAV1]; done)) | ((with_reducible refine den_cond false ?_ (fun h => nomatch h) (fun _ => ?_)); focus (simp only [aev, Tr.get_put, Tr.get_leaf, Nat.reduceEqDiff, reduceIte, cAV, cAV1]; done)) | ((with_reducible refine den_region fun nx hnx => ?_); simp only [List.toList_toArray, bB, aappend, anew, ↓awp, ↓aops, ↓aop, ↓aopV, aval, amake, astore, aload, ↓aput, aev, aevs, aparts, cAV, cAV1, cAVs, gval, ↓xthen, ↓xblock, abinop, aeqA, aeqV, aeqFs, aeqIs, aints, abin, astr, aoth, aeq1, isEq, eqTy, aun, aconv, aint, aslice, afield, aidx, aindex, amin, apart, afill, areps, AV.cells, AV.one, aones, TI.agg, tmArgs, ares, aresl, ares1, reduceIte, reduceCtorEq, Nat.reduceLT, Nat.reduceLeDiff, Nat.reduceEqDiff, Nat.reduceAdd, Nat.reduceSub, Nat.reduceMul, Nat.reduceBEq, Nat.reduceBNe, Nat.reduceBeqDiff, Int.reduceLT, Int.reduceLE, Int.reduceEq, Int.reduceNeg, Int.reduceAdd, Int.reduceSub, Int.reduceMul, Int.reduceToNat, Int.reduceNe, bA, abytes, bT]; with_reducible refine hnx _ _ ?_; clear hnx nx))
  refine den_loop (fun m tm H' => ∃ k : Nat, k ≤ 8 ∧ k ≤ size ∧ m = size - k ∧ tm.get 0 = some (.b big) ∧ tm.get 1 = some (.i .u64 ((n / 256 ^ k : Nat) : Int)) ∧ tm.get 2 = some (.i .i64 size) ∧ tm.get 7 = some (.s (putS big k n)) ∧ tm.get 8 = some (.i .i64 k) ∧ H.Sub H' ∧ (size ≤ 8 ∨ k = 0)) size ?_ ?_
  · exact ⟨0, by omega, by omega, rfl, by simp [Tr.get_put], by simp [Tr.get_put], by simp [Tr.get_put], by cases big <;> simp [Tr.get_put, putS, putL], by simp [Tr.get_put], fun _ _ h => h, .inr rfl⟩
  · rintro m tm H' ⟨k, hk8, hks, rfl, h0, h1, h2, h7, h8, hsub, hk0⟩
    have g0 : ∀ N : Nat, (N : Int).tmod 256 = ((N % 256 : Nat) : Int) := fun N => rfl
    have g1 : ∀ N : Nat, (N : Int).tdiv 256 = ((N / 256 : Nat) : Int) := fun N => rfl
    by_cases hlt : k < size
    · have d1 : decide ((k : Int) < (size : Int)) = true := by simp [hlt]
      by_cases h8' : size ≤ 8
      · have d2 : decide ((size : Int) ≤ 8) = true := by simp; omega
        have hN : n / 256 ^ k < 18446744073709551616 := Nat.lt_of_le_of_lt (Nat.div_le_self _ _) hn
        have w1 : IntKind.u8.wrap ((n / 256 ^ k % 256 : Nat) : Int) = ((n / 256 ^ k % 256 : Nat) : Int) := u8n _ (by omega)
        have w2 : IntKind.u64.wrap ((n / 256 ^ k / 256 : Nat) : Int) = ((n / 256 ^ k / 256 : Nat) : Int) := u64n _ (by omega)
        have w3 : IntKind.i64.wrap ((k : Int) + 1) = ((k + 1 : Nat) : Int) := i64s k (by omega)
        have l1 : (putS big k n).length = k := by cases big <;> simp [putS, putL_length]
        have a1 : 1 + k ≤ 9223372036854775807 := by omega
        have a2 : k + 1 ≤ 9223372036854775807 := by omega
        have pw : n / 256 ^ k / 256 = n / 256 ^ (k + 1) := by rw [Nat.div_div_eq_div_mul, Nat.pow_succ]
        cases big
        · repeat (first | with_reducible refine den_seq ?_ | with_reducible refine den_skip ?_ | with_reducible refine den_scope ?_ | with_reducible refine den_block ?_ | with_reducible refine den_exit ?_ | with_reducible refine den_blk_nrm ?_ | with_reducible refine den_blk_ex ?_ | with_reducible refine den_blk_ret ?_ | with_reducible refine den_code_ex ?_ | with_reducible refine den_code_ret ?_ | with_reducible refine den_rd_ex ?_ | with_reducible refine den_rd_ret ?_ | with_reducible refine den_ret ?_ | ((with_reducible refine den_cond true ?_ (fun _ => ?_) (fun h => nomatch h)); focus (simp only [aev, Tr.get_put, Tr.get_leaf, Nat.reduceEqDiff, reduceIte, cAV, cAV1, h0, h1, h2, h7, h8, d1, d2, g0, g1, w1, w2, w3, l1, a2]; done)) | ((with_reducible refine den_cond false ?_ (fun h => nomatch h) (fun _ => ?_)); focus (simp only [aev, Tr.get_put, Tr.get_leaf, Nat.reduceEqDiff, reduceIte, cAV, cAV1, h0, h1, h2, h7, h8, d1, d2, g0, g1, w1, w2, w3, l1, a2]; done)) | ((with_reducible refine den_region fun nx hnx => ?_); simp only [List.toList_toArray, bB, aappend, anew, ↓awp, ↓aops, ↓aop, ↓aopV, aval, amake, astore, aload, ↓aput, aev, aevs, aparts, cAV, cAV1, cAVs, gval, ↓xthen, ↓xblock, abinop, aeqA, aeqV, aeqFs, aeqIs, aints, abin, astr, aoth, aeq1, isEq, eqTy, aun, aconv, aint, aslice, afield, aidx, aindex, amin, apart, afill, areps, AV.cells, AV.one, aones, TI.agg, tmArgs, ares, aresl, ares1, reduceIte, reduceCtorEq, Nat.reduceLT, Nat.reduceLeDiff, Nat.reduceEqDiff, Nat.reduceAdd, Nat.reduceSub, Nat.reduceMul, Nat.reduceBEq, Nat.reduceBNe, Nat.reduceBeqDiff, Int.reduceLT, Int.reduceLE, Int.reduceEq, Int.reduceNeg, Int.reduceAdd, Int.reduceSub, Int.reduceMul, Int.reduceToNat, Int.reduceNe, bA, abytes, bT, h0, h1, h2, h7, h8, d1, d2, g0, g1, w1, w2, w3, l1, a2]; with_reducible refine hnx _ _ ?_; clear hnx nx))
          exact den_rd ⟨_, by omega, k + 1, by omega, hlt, rfl, by simp [Tr.get_put, h0], by simp [Tr.get_put, ← pw], by simp [Tr.get_put, h2], by simp [Tr.get_put, putS, putL_succ], by simp [Tr.get_put], sub_trans hsub (Heap.sub_alloc _ _), .inl h8'⟩
        · repeat (first | with_reducible refine den_seq ?_ | with_reducible refine den_skip ?_ | with_reducible refine den_scope ?_ | with_reducible refine den_block ?_ | with_reducible refine den_exit ?_ | with_reducible refine den_blk_nrm ?_ | with_reducible refine den_blk_ex ?_ | with_reducible refine den_blk_ret ?_ | with_reducible refine den_code_ex ?_ | with_reducible refine den_code_ret ?_ | with_reducible refine den_rd_ex ?_ | with_reducible refine den_rd_ret ?_ | with_reducible refine den_ret ?_ | ((with_reducible refine den_cond true ?_ (fun _ => ?_) (fun h => nomatch h)); focus (simp only [aev, Tr.get_put, Tr.get_leaf, Nat.reduceEqDiff, reduceIte, cAV, cAV1, h0, h1, h2, h7, h8, d1, d2, g0, g1, w1, w2, w3, l1, a1]; done)) | ((with_reducible refine den_cond false ?_ (fun h => nomatch h) (fun _ => ?_)); focus (simp only [aev, Tr.get_put, Tr.get_leaf, Nat.reduceEqDiff, reduceIte, cAV, cAV1, h0, h1, h2, h7, h8, d1, d2, g0, g1, w1, w2, w3, l1, a1]; done)) | ((with_reducible refine den_region fun nx hnx => ?_); simp only [List.toList_toArray, bB, aappend, anew, ↓awp, ↓aops, ↓aop, ↓aopV, aval, amake, astore, aload, ↓aput, aev, aevs, aparts, cAV, cAV1, cAVs, gval, ↓xthen, ↓xblock, abinop, aeqA, aeqV, aeqFs, aeqIs, aints, abin, astr, aoth, aeq1, isEq, eqTy, aun, aconv, aint, aslice, afield, aidx, aindex, amin, apart, afill, areps, AV.cells, AV.one, aones, TI.agg, tmArgs, ares, aresl, ares1, reduceIte, reduceCtorEq, Nat.reduceLT, Nat.reduceLeDiff, Nat.reduceEqDiff, Nat.reduceAdd, Nat.reduceSub, Nat.reduceMul, Nat.reduceBEq, Nat.reduceBNe, Nat.reduceBeqDiff, Int.reduceLT, Int.reduceLE, Int.reduceEq, Int.reduceNeg, Int.reduceAdd, Int.reduceSub, Int.reduceMul, Int.reduceToNat, Int.reduceNe, bA, abytes, bT, h0, h1, h2, h7, h8, d1, d2, g0, g1, w1, w2, w3, l1, a1]; with_reducible refine hnx _ _ ?_; clear hnx nx))
          exact den_rd ⟨_, by omega, k + 1, by omega, hlt, rfl, by simp [Tr.get_put, h0], by simp [Tr.get_put, ← pw], by simp [Tr.get_put, h2], by simp [Tr.get_put, putS, putL_succ], by simp [Tr.get_put], sub_trans hsub (Heap.sub_alloc _ _), .inl h8'⟩
      · have d2 : decide ((size : Int) ≤ 8) = false := by simp; omega
        have hk : k = 0 := by omega
        have hr : putB big n size = putS big k n := by
          subst hk
          unfold putB
          have : Nat.ble size 8 = false := by cases hb : Nat.ble size 8 with | false => rfl | true => exact absurd (Nat.le_of_ble_eq_true hb) h8'
          rw [this]; cases big <;> rfl
        repeat (first | with_reducible refine den_seq ?_ | with_reducible refine den_skip ?_ | with_reducible refine den_scope ?_ | with_reducible refine den_block ?_ | with_reducible refine den_exit ?_ | with_reducible refine den_blk_nrm ?_ | with_reducible refine den_blk_ex ?_ | with_reducible refine den_blk_ret ?_ | with_reducible refine den_code_ex ?_ | with_reducible refine den_code_ret ?_ | with_reducible refine den_rd_ex ?_ | with_reducible refine den_rd_ret ?_ | with_reducible refine den_ret ?_ | ((with_reducible refine den_cond true ?_ (fun _ => ?_) (fun h => nomatch h)); focus (simp only [aev, Tr.get_put, Tr.get_leaf, Nat.reduceEqDiff, reduceIte, cAV, cAV1, h0, h1, h2, h7, h8, d1, d2]; done)) | ((with_reducible refine den_cond false ?_ (fun h => nomatch h) (fun _ => ?_)); focus (simp only [aev, Tr.get_put, Tr.get_leaf, Nat.reduceEqDiff, reduceIte, cAV, cAV1, h0, h1, h2, h7, h8, d1, d2]; done)) | ((with_reducible refine den_region fun nx hnx => ?_); simp only [List.toList_toArray, bB, aappend, anew, ↓awp, ↓aops, ↓aop, ↓aopV, aval, amake, astore, aload, ↓aput, aev, aevs, aparts, cAV, cAV1, cAVs, gval, ↓xthen, ↓xblock, abinop, aeqA, aeqV, aeqFs, aeqIs, aints, abin, astr, aoth, aeq1, isEq, eqTy, aun, aconv, aint, aslice, afield, aidx, aindex, amin, apart, afill, areps, AV.cells, AV.one, aones, TI.agg, tmArgs, ares, aresl, ares1, reduceIte, reduceCtorEq, Nat.reduceLT, Nat.reduceLeDiff, Nat.reduceEqDiff, Nat.reduceAdd, Nat.reduceSub, Nat.reduceMul, Nat.reduceBEq, Nat.reduceBNe, Nat.reduceBeqDiff, Int.reduceLT, Int.reduceLE, Int.reduceEq, Int.reduceNeg, Int.reduceAdd, Int.reduceSub, Int.reduceMul, Int.reduceToNat, Int.reduceNe, bA, abytes, bT, h0, h1, h2, h7, h8, d1, d2]; with_reducible refine hnx _ _ ?_; clear hnx nx))
        exact hq2 _ _ ⟨.s (putS big k n), by simp [ares, aresl, ares1, Tr.get_put], by rw [hr], rfl, hsub⟩
    · have d1 : decide ((k : Int) < (size : Int)) = false := by simp; omega
      have hk : k = size := by omega
      have hr : putB big n size = putS big k n := by
        subst hk
        unfold putB putS
        have : Nat.ble k 8 = true := Nat.ble_eq_true_of_le hk8
        rw [this]; cases big <;> rfl
      repeat (first | with_reducible refine den_seq ?_ | with_reducible refine den_skip ?_ | with_reducible refine den_scope ?_ | with_reducible refine den_block ?_ | with_reducible refine den_exit ?_ | with_reducible refine den_blk_nrm ?_ | with_reducible refine den_blk_ex ?_ | with_reducible refine den_blk_ret ?_ | with_reducible refine den_code_ex ?_ | with_reducible refine den_code_ret ?_ | with_reducible refine den_rd_ex ?_ | with_reducible refine den_rd_ret ?_ | with_reducible refine den_ret ?_ | ((with_reducible refine den_cond true ?_ (fun _ => ?_) (fun h => nomatch h)); focus (simp only [aev, Tr.get_put, Tr.get_leaf, Nat.reduceEqDiff, reduceIte, cAV, cAV1, h0, h1, h2, h7, h8, d1]; done)) | ((with_reducible refine den_cond false ?_ (fun h => nomatch h) (fun _ => ?_)); focus (simp only [aev, Tr.get_put, Tr.get_leaf, Nat.reduceEqDiff, reduceIte, cAV, cAV1, h0, h1, h2, h7, h8, d1]; done)) | ((with_reducible refine den_region fun nx hnx => ?_); simp only [List.toList_toArray, bB, aappend, anew, ↓awp, ↓aops, ↓aop, ↓aopV, aval, amake, astore, aload, ↓aput, aev, aevs, aparts, cAV, cAV1, cAVs, gval, ↓xthen, ↓xblock, abinop, aeqA, aeqV, aeqFs, aeqIs, aints, abin, astr, aoth, aeq1, isEq, eqTy, aun, aconv, aint, aslice, afield, aidx, aindex, amin, apart, afill, areps, AV.cells, AV.one, aones, TI.agg, tmArgs, ares, aresl, ares1, reduceIte, reduceCtorEq, Nat.reduceLT, Nat.reduceLeDiff, Nat.reduceEqDiff, Nat.reduceAdd, Nat.reduceSub, Nat.reduceMul, Nat.reduceBEq, Nat.reduceBNe, Nat.reduceBeqDiff, Int.reduceLT, Int.reduceLE, Int.reduceEq, Int.reduceNeg, Int.reduceAdd, Int.reduceSub, Int.reduceMul, Int.reduceToNat, Int.reduceNe, bA, abytes, bT, h0, h1, h2, h7, h8, d1]; with_reducible refine hnx _ _ ?_; clear hnx nx))
      exact hq2 _ _ ⟨.s (putS big k n), by simp [ares, aresl, ares1, Tr.get_put], by rw [hr], rfl, hsub⟩
end Go.Proofs.YtnladombaepkkaaGreatDoor
