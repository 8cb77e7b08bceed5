/- Contract of the program's Get. Conditions: none. -/
import Derived.Test.YtnladombaepkkaaGreatDoorBun
import Derived.Test.YtnladombaepkkaaGreatDoorSum2
set_option linter.all false
namespace Go.Proofs.YtnladombaepkkaaGreatDoor
open Go Go.Abs
/-- The number made of the first k bytes that are read. -/
def getK (big : Bool) (s : List UInt8) (k : Nat) : Nat := getL ((if big then s.reverse else s).take k)
theorem getK_succ (big : Bool) (s : List UInt8) (k : Nat) (h : k < s.length) :
    getK big s (k + 1) = getK big s k + (s[if big then s.length - 1 - k else k]'(by split <;> omega)).toNat * 256 ^ k := by
  unfold getK
  have hl : k < (if big then s.reverse else s).length := by cases big <;> simpa using h
  have := List.take_succ_eq_append_getElem hl
  rw [this, getL_snoc]
  congr 1
  have e1 : ((if big then s.reverse else s).take k).length = k := by cases big <;> simp <;> omega
  rw [e1]
  cases big <;> simp
theorem shl_val (b k : Nat) (hb : b < 256) (hk : k < 8) : IntKind.u64.wrap ((b : Int) * 2 ^ (8 * k)) = ((b * 256 ^ k : Nat) : Int) := by
  have h1 : 256 ^ k = 2 ^ (8 * k) := by rw [show 256 = 2 ^ 8 from rfl, ← Nat.pow_mul]
  have h8 : 256 ^ (k + 1) ≤ 256 ^ 8 := Nat.pow_le_pow_right (by omega) (by omega)
  have : b * 256 ^ k < 18446744073709551616 := by
    have : b * 256 ^ k ≤ 255 * 256 ^ k := Nat.mul_le_mul_right _ (by omega)
    have : 256 ^ (k + 1) = 256 * 256 ^ k := by rw [Nat.pow_succ, Nat.mul_comm]
    have : (256 : Nat) ^ 8 = 18446744073709551616 := by decide
    have : 0 < 256 ^ k := Nat.pow_pos (by omega)
    omega
  rw [← u64n _ this, h1]; simp
set_option maxRecDepth 20000 in
theorem refGet_ok (big : Bool) (s : List UInt8) (hs : s.length ≤ 140737488355327) (H : Heap) :
    SCalls Tryz.prog 98 [.ag [.b big], .s s] H (fun v K => v = .i .u64 (getB big s) ∧ K = H) := by
  refine SCalls.drop ?_
  refine SCalls.of_den (D := fun _ => []) (nt := 30) (res := [.tmp 4]) hC mix Tryz.func98 rfl rfl rfl rfl (by simp) fun Q hq1 hq2 => ?_; simp only [tmArgs]
  by_cases h8 : s.length ≤ 8
  · have d1 : decide ((s.length : Int) > 8) = false := by simp; omega
    have d1' : decide ((8 : Int) < (s.length : Int)) = false := by simp; omega
    repeat (first | with_reducible refine den_seq ?_ | with_reducible refine den_skip ?_ | with_reducible refine den_scope ?_ | with_reducible refine den_block ?_ | with_reducible refine den_exit ?_ | with_reducible refine den_blk_nrm ?_ | with_reducible refine den_blk_ex ?_ | with_reducible refine den_blk_ret ?_ | with_reducible refine den_code_ex ?_ | with_reducible refine den_code_ret ?_ | with_reducible refine den_rd_ex ?_ | with_reducible refine den_rd_ret ?_ | with_reducible refine den_ret ?_ | ((with_reducible refine den_cond true ?_ (fun _ => ?_) (fun h => nomatch h)); focus (simp only [aev, Tr.get_put, Tr.get_leaf, Nat.reduceEqDiff, reduceIte, cAV, cAV1, d1, d1']; done)) | ((with_reducible refine den_cond false ?_ (fun h => nomatch h) (fun _ => ?_)); focus (simp only [aev, Tr.get_put, Tr.get_leaf, Nat.reduceEqDiff, reduceIte, cAV, cAV1, d1, d1']; done)) | ((with_reducible refine den_region fun nx hnx => ?_); simp only [List.toList_toArray, bB, aappend, anew, ↓awp, ↓aops, ↓aop, ↓aopV, aval, amake, astore, aload, ↓aput, aev, aevs, aparts, cAV, cAV1, cAVs, gval, ↓xthen, ↓xblock, abinop, aeqA, aeqV, aeqFs, aeqIs, aints, abin, astr, aoth, aeq1, isEq, eqTy, aun, aconv, aint, aslice, afield, aidx, aindex, amin, apart, afill, areps, AV.cells, AV.one, aones, TI.agg, tmArgs, ares, aresl, ares1, reduceIte, reduceCtorEq, Nat.reduceLT, Nat.reduceLeDiff, Nat.reduceEqDiff, Nat.reduceAdd, Nat.reduceSub, Nat.reduceMul, Nat.reduceBEq, Nat.reduceBNe, Nat.reduceBeqDiff, Int.reduceLT, Int.reduceLE, Int.reduceEq, Int.reduceNeg, Int.reduceAdd, Int.reduceSub, Int.reduceMul, Int.reduceToNat, Int.reduceNe, bA, abytes, bT, d1, d1']; with_reducible refine hnx _ _ ?_; clear hnx nx))
    refine den_loop (fun m tm H' => ∃ k : Nat, k ≤ s.length ∧ m = s.length - k ∧ tm.get 1 = some (.s s) ∧ tm.get 2 = some (.p H.next 0) ∧ tm.get 5 = some (.i .u64 (getK big s k : Nat)) ∧ tm.get 12 = some (.i .i64 k) ∧ tm.get 11 = some (.i .i64 s.length) ∧ H.Sub H' ∧ H'.get H.next = some ⟨[.b big], true⟩) s.length ?_ ?_
    · exact ⟨0, Nat.zero_le _, rfl, by simp [Tr.get_put], by simp [Tr.get_put], by simp [Tr.get_put, getK, getL], by simp [Tr.get_put], by simp [Tr.get_put], Heap.sub_alloc _ _, by simp [Heap.get_alloc]⟩
    · rintro m tm H' ⟨k, hk, rfl, h1, h2, h5, h12, h11, hsub, hg⟩
      by_cases hlt : k < s.length
      · have d2 : decide ((k : Int) < (s.length : Int)) = true := by simp [hlt]
        repeat (first | with_reducible refine den_seq ?_ | with_reducible refine den_skip ?_ | with_reducible refine den_scope ?_ | with_reducible refine den_block ?_ | with_reducible refine den_exit ?_ | with_reducible refine den_blk_nrm ?_ | with_reducible refine den_blk_ex ?_ | with_reducible refine den_blk_ret ?_ | with_reducible refine den_code_ex ?_ | with_reducible refine den_code_ret ?_ | with_reducible refine den_rd_ex ?_ | with_reducible refine den_rd_ret ?_ | with_reducible refine den_ret ?_ | ((with_reducible refine den_cond true ?_ (fun _ => ?_) (fun h => nomatch h)); focus (simp only [aev, Tr.get_put, Tr.get_leaf, Nat.reduceEqDiff, reduceIte, cAV, cAV1, h1, h2, h5, h12, h11, hg, d2]; done)) | ((with_reducible refine den_cond false ?_ (fun h => nomatch h) (fun _ => ?_)); focus (simp only [aev, Tr.get_put, Tr.get_leaf, Nat.reduceEqDiff, reduceIte, cAV, cAV1, h1, h2, h5, h12, h11, hg, d2]; done)) | ((with_reducible refine den_region fun nx hnx => ?_); simp only [List.toList_toArray, bB, aappend, anew, ↓awp, ↓aops, ↓aop, ↓aopV, aval, amake, astore, aload, ↓aput, aev, aevs, aparts, cAV, cAV1, cAVs, gval, ↓xthen, ↓xblock, abinop, aeqA, aeqV, aeqFs, aeqIs, aints, abin, astr, aoth, aeq1, isEq, eqTy, aun, aconv, aint, aslice, afield, aidx, aindex, amin, apart, afill, areps, AV.cells, AV.one, aones, TI.agg, tmArgs, ares, aresl, ares1, reduceIte, reduceCtorEq, Nat.reduceLT, Nat.reduceLeDiff, Nat.reduceEqDiff, Nat.reduceAdd, Nat.reduceSub, Nat.reduceMul, Nat.reduceBEq, Nat.reduceBNe, Nat.reduceBeqDiff, Int.reduceLT, Int.reduceLE, Int.reduceEq, Int.reduceNeg, Int.reduceAdd, Int.reduceSub, Int.reduceMul, Int.reduceToNat, Int.reduceNe, bA, abytes, bT, h1, h2, h5, h12, h11, hg, d2]; with_reducible refine hnx _ _ ?_; clear hnx nx))
        have w3 : IntKind.i64.wrap ((k : Int) + 1) = ((k + 1 : Nat) : Int) := i64s k (by omega)
        have w8 : IntKind.i64.wrap (8 * (k : Int)) = ((8 * k : Nat) : Int) := by rw [w64 (by omega) (by omega)]; omega
        with_reducible refine den_region fun nx hnx => ?_; simp only [List.toList_toArray, bB, aappend, anew, ↓awp, ↓aops, ↓aop, ↓aopV, aval, amake, astore, aload, ↓aput, aev, aevs, aparts, cAV, cAV1, cAVs, gval, ↓xthen, ↓xblock, abinop, aeqA, aeqV, aeqFs, aeqIs, aints, abin, astr, aoth, aeq1, isEq, eqTy, aun, aconv, aint, aslice, afield, aidx, aindex, amin, apart, afill, areps, AV.cells, AV.one, aones, TI.agg, tmArgs, ares, aresl, ares1, reduceIte, reduceCtorEq, Nat.reduceLT, Nat.reduceLeDiff, Nat.reduceEqDiff, Nat.reduceAdd, Nat.reduceSub, Nat.reduceMul, Nat.reduceBEq, Nat.reduceBNe, Nat.reduceBeqDiff, Int.reduceLT, Int.reduceLE, Int.reduceEq, Int.reduceNeg, Int.reduceAdd, Int.reduceSub, Int.reduceMul, Int.reduceToNat, Int.reduceNe, bA, abytes, bT, h1, h2, h5, h12, h11, hg, d2]
        refine (place_ok big k s.length hlt (by omega) _).mono ?_
        rintro v H2 ⟨rfl, rfl⟩
        obtain ⟨c, hc⟩ : ∃ c, s[if big = true then s.length - 1 - k else k]? = some c := ⟨_, List.getElem?_eq_getElem (by split <;> omega)⟩
        have hs' : getK big s (k + 1) = getK big s k + c.toNat * 256 ^ k := by
          rw [getK_succ big s k hlt]
          obtain ⟨h', hc'⟩ := List.getElem?_eq_some_iff.1 hc
          rw [hc']
        have cb := c.toNat_lt
        have f1 : IntKind.u64.wrap (c.toNat : Int) = c.toNat := u64n _ (by omega)
        have f2 : ((8 * k : Nat) : Int) < 0 ↔ False := iff_false_intro (by omega)
        have f3 : min (8 * k) IntKind.u64.bits = 8 * k := Nat.min_eq_left (show 8 * k ≤ 64 by omega)
        have f4 := shl_val c.toNat k (by omega) (by omega)
        have gl : getK big s k < 256 ^ k := by
          have := getL_lt ((if big then s.reverse else s).take k)
          have hle : ((if big then s.reverse else s).take k).length = k := by cases big <;> simp <;> omega
          rw [hle] at this; exact this
        have f5 := or_add (getK big s k) c.toNat k gl (by omega) (by omega)
        simp only [bB, aappend, anew, ↓awp, ↓aops, ↓aop, ↓aopV, aval, amake, astore, aload, ↓aput, aev, aevs, aparts, cAV, cAV1, cAVs, gval, ↓xthen, ↓xblock, abinop, aeqA, aeqV, aeqFs, aeqIs, aints, abin, astr, aoth, aeq1, isEq, eqTy, aun, aconv, aint, aslice, afield, aidx, aindex, amin, apart, afill, areps, AV.cells, AV.one, aones, TI.agg, tmArgs, ares, aresl, ares1, reduceIte, reduceCtorEq, Nat.reduceLT, Nat.reduceLeDiff, Nat.reduceEqDiff, Nat.reduceAdd, Nat.reduceSub, Nat.reduceMul, Nat.reduceBEq, Nat.reduceBNe, Nat.reduceBeqDiff, Int.reduceLT, Int.reduceLE, Int.reduceEq, Int.reduceNeg, Int.reduceAdd, Int.reduceSub, Int.reduceMul, Int.reduceToNat, Int.reduceNe, bA, abytes, bT, h1, h2, h5, h12, h11, hg, d2, w3, w8, hc, f1, f2, f3, f4, f5]
        with_reducible refine hnx _ _ ?_; clear hnx nx
        repeat (first | with_reducible refine den_seq ?_ | with_reducible refine den_skip ?_ | with_reducible refine den_scope ?_ | with_reducible refine den_block ?_ | with_reducible refine den_exit ?_ | with_reducible refine den_blk_nrm ?_ | with_reducible refine den_blk_ex ?_ | with_reducible refine den_blk_ret ?_ | with_reducible refine den_code_ex ?_ | with_reducible refine den_code_ret ?_ | with_reducible refine den_rd_ex ?_ | with_reducible refine den_rd_ret ?_ | with_reducible refine den_ret ?_ | ((with_reducible refine den_cond true ?_ (fun _ => ?_) (fun h => nomatch h)); focus (simp only [aev, Tr.get_put, Tr.get_leaf, Nat.reduceEqDiff, reduceIte, cAV, cAV1, h12, w3]; done)) | ((with_reducible refine den_cond false ?_ (fun h => nomatch h) (fun _ => ?_)); focus (simp only [aev, Tr.get_put, Tr.get_leaf, Nat.reduceEqDiff, reduceIte, cAV, cAV1, h12, w3]; done)) | ((with_reducible refine den_region fun nx hnx => ?_); simp only [List.toList_toArray, bB, aappend, anew, ↓awp, ↓aops, ↓aop, ↓aopV, aval, amake, astore, aload, ↓aput, aev, aevs, aparts, cAV, cAV1, cAVs, gval, ↓xthen, ↓xblock, abinop, aeqA, aeqV, aeqFs, aeqIs, aints, abin, astr, aoth, aeq1, isEq, eqTy, aun, aconv, aint, aslice, afield, aidx, aindex, amin, apart, afill, areps, AV.cells, AV.one, aones, TI.agg, tmArgs, ares, aresl, ares1, reduceIte, reduceCtorEq, Nat.reduceLT, Nat.reduceLeDiff, Nat.reduceEqDiff, Nat.reduceAdd, Nat.reduceSub, Nat.reduceMul, Nat.reduceBEq, Nat.reduceBNe, Nat.reduceBeqDiff, Int.reduceLT, Int.reduceLE, Int.reduceEq, Int.reduceNeg, Int.reduceAdd, Int.reduceSub, Int.reduceMul, Int.reduceToNat, Int.reduceNe, bA, abytes, bT, h12, w3]; with_reducible refine hnx _ _ ?_; clear hnx nx))
        exact den_rd ⟨_, by omega, k + 1, hlt, rfl, by simp [Tr.get_put, h1], by simp [Tr.get_put, h2], by simp [Tr.get_put, hs'], by simp [Tr.get_put], by simp [Tr.get_put, h11], hsub, hg⟩
      · have d2 : decide ((k : Int) < (s.length : Int)) = false := by simp [hlt]
        have hk' : k = s.length := by omega
        repeat (first | with_reducible refine den_seq ?_ | with_reducible refine den_skip ?_ | with_reducible refine den_scope ?_ | with_reducible refine den_block ?_ | with_reducible refine den_exit ?_ | with_reducible refine den_blk_nrm ?_ | with_reducible refine den_blk_ex ?_ | with_reducible refine den_blk_ret ?_ | with_reducible refine den_code_ex ?_ | with_reducible refine den_code_ret ?_ | with_reducible refine den_rd_ex ?_ | with_reducible refine den_rd_ret ?_ | with_reducible refine den_ret ?_ | ((with_reducible refine den_cond true ?_ (fun _ => ?_) (fun h => nomatch h)); focus (simp only [aev, Tr.get_put, Tr.get_leaf, Nat.reduceEqDiff, reduceIte, cAV, cAV1, h1, h2, h5, h12, h11, hg, d2]; done)) | ((with_reducible refine den_cond false ?_ (fun h => nomatch h) (fun _ => ?_)); focus (simp only [aev, Tr.get_put, Tr.get_leaf, Nat.reduceEqDiff, reduceIte, cAV, cAV1, h1, h2, h5, h12, h11, hg, d2]; done)) | ((with_reducible refine den_region fun nx hnx => ?_); simp only [List.toList_toArray, bB, aappend, anew, ↓awp, ↓aops, ↓aop, ↓aopV, aval, amake, astore, aload, ↓aput, aev, aevs, aparts, cAV, cAV1, cAVs, gval, ↓xthen, ↓xblock, abinop, aeqA, aeqV, aeqFs, aeqIs, aints, abin, astr, aoth, aeq1, isEq, eqTy, aun, aconv, aint, aslice, afield, aidx, aindex, amin, apart, afill, areps, AV.cells, AV.one, aones, TI.agg, tmArgs, ares, aresl, ares1, reduceIte, reduceCtorEq, Nat.reduceLT, Nat.reduceLeDiff, Nat.reduceEqDiff, Nat.reduceAdd, Nat.reduceSub, Nat.reduceMul, Nat.reduceBEq, Nat.reduceBNe, Nat.reduceBeqDiff, Int.reduceLT, Int.reduceLE, Int.reduceEq, Int.reduceNeg, Int.reduceAdd, Int.reduceSub, Int.reduceMul, Int.reduceToNat, Int.reduceNe, bA, abytes, bT, h1, h2, h5, h12, h11, hg, d2]; with_reducible refine hnx _ _ ?_; clear hnx nx))
        have hr : getB big s = getK big s k := by
          subst hk'
          unfold getB getK
          have : Nat.ble s.length 8 = true := Nat.ble_eq_true_of_le h8
          rw [this]; cases big <;> simp [List.take_of_length_le]
        exact hq2 _ _ ⟨.i .u64 (getK big s k : Nat), by simp [ares, aresl, ares1, Tr.get_put], by rw [hr], rfl, hsub⟩
  · have d1 : decide ((s.length : Int) > 8) = true := by simp; omega
    have d1' : decide ((8 : Int) < (s.length : Int)) = true := by simp; omega
    repeat (first | with_reducible refine den_seq ?_ | with_reducible refine den_skip ?_ | with_reducible refine den_scope ?_ | with_reducible refine den_block ?_ | with_reducible refine den_exit ?_ | with_reducible refine den_blk_nrm ?_ | with_reducible refine den_blk_ex ?_ | with_reducible refine den_blk_ret ?_ | with_reducible refine den_code_ex ?_ | with_reducible refine den_code_ret ?_ | with_reducible refine den_rd_ex ?_ | with_reducible refine den_rd_ret ?_ | with_reducible refine den_ret ?_ | ((with_reducible refine den_cond true ?_ (fun _ => ?_) (fun h => nomatch h)); focus (simp only [aev, Tr.get_put, Tr.get_leaf, Nat.reduceEqDiff, reduceIte, cAV, cAV1, d1, d1']; done)) | ((with_reducible refine den_cond false ?_ (fun h => nomatch h) (fun _ => ?_)); focus (simp only [aev, Tr.get_put, Tr.get_leaf, Nat.reduceEqDiff, reduceIte, cAV, cAV1, d1, d1']; done)) | ((with_reducible refine den_region fun nx hnx => ?_); simp only [List.toList_toArray, bB, aappend, anew, ↓awp, ↓aops, ↓aop, ↓aopV, aval, amake, astore, aload, ↓aput, aev, aevs, aparts, cAV, cAV1, cAVs, gval, ↓xthen, ↓xblock, abinop, aeqA, aeqV, aeqFs, aeqIs, aints, abin, astr, aoth, aeq1, isEq, eqTy, aun, aconv, aint, aslice, afield, aidx, aindex, amin, apart, afill, areps, AV.cells, AV.one, aones, TI.agg, tmArgs, ares, aresl, ares1, reduceIte, reduceCtorEq, Nat.reduceLT, Nat.reduceLeDiff, Nat.reduceEqDiff, Nat.reduceAdd, Nat.reduceSub, Nat.reduceMul, Nat.reduceBEq, Nat.reduceBNe, Nat.reduceBeqDiff, Int.reduceLT, Int.reduceLE, Int.reduceEq, Int.reduceNeg, Int.reduceAdd, Int.reduceSub, Int.reduceMul, Int.reduceToNat, Int.reduceNe, bA, abytes, bT, d1, d1']; with_reducible refine hnx _ _ ?_; clear hnx nx))
    refine hq2 _ _ ⟨.i .u64 0, by simp [ares, aresl, ares1, Tr.get_put], ?_, rfl, Heap.sub_alloc _ _⟩
    unfold getB
    have : Nat.ble s.length 8 = false := by cases hb : Nat.ble s.length 8 with | false => rfl | true => exact absurd (Nat.le_of_ble_eq_true hb) h8
    rw [this]; rfl
end Go.Proofs.YtnladombaepkkaaGreatDoor
