/- Contract of the closure in (model.Model).Tables. Conditions: none. -/
import Derived.Test.YtnladombaepkkaaGreatDoorBun
import Derived.Test.YtnladombaepkkaaGreatDoorRep2
set_option linter.all false
--GROW
namespace Go.Proofs.YtnladombaepkkaaGreatDoor
open Go Go.Abs
/-- The marks behind one more call. -/
def marked (bs : List Bool) (i : Int) : List Bool := if 0 < i ∧ i < bs.length then bs.set i.toNat true else bs
theorem marked_length (bs : List Bool) (i : Int) : (marked bs i).length = bs.length := by
  unfold marked; split <;> simp
theorem map_set_split (bs : List Bool) (k : Nat) (h : k < bs.length) : (bs.map AV.b).take k ++ [AV.b true] ++ (bs.map AV.b).drop (k + 1) = (bs.set k true).map AV.b := by
  rw [List.map_set, List.set_eq_take_append_cons_drop, if_pos (by simpa using h)]; simp
set_option maxRecDepth 20000 in
theorem mark_ok (bs : List Bool) (i : Int) (b3 bo : Nat) (cap : Cap) (H : Heap) (hn : bs.length ≤ 1000) (h3 : H.get b3 = some ⟨[.sl bo 0 bs.length cap], true⟩) (ho : H.get bo = some ⟨bs.map AV.b, true⟩) (hne : b3 ≠ bo) :
    SCalls Tryz.prog 32 [.i .u64 i, .p b3 0] H (fun v K => v = .tu [] ∧ K.get b3 = some ⟨[.sl bo 0 bs.length cap], true⟩ ∧ K.get bo = some ⟨(marked bs i).map AV.b, true⟩ ∧ Heap.Agree [bo] H K ∧ K.next = H.next) := by
  have hb3 := Heap.lt_of_get h3
  have hbo := Heap.lt_of_get ho
  have wl : IntKind.u64.wrap (bs.length : Int) = bs.length := u64n _ (by omega)
  refine SCalls.of_den (D := fun _ => []) (nt := 15) (res := []) hC mix Tryz.func32 rfl rfl rfl rfl (by simp) fun Q hq1 hq2 => ?_; simp only [tmArgs]; have f_0 := Nat.add_zero 0; have f_1 := Nat.add_zero 0; have f_11 := Nat.add_zero 0; refine den_forget fun tmX hTX => ?_; have g := TM.looks hTX [0,1,11]; simp only [TM.conj,Tr.get_put,Tr.get_leaf,Nat.reduceEqDiff,reduceIte,f_0,f_1,f_11] at g; clear f_0 f_1 f_11 hTX; obtain ⟨f_0,f_1,f_11⟩ := g
  by_cases h0 : 0 < i
  · have t0 : (i > 0) = True := eq_true (by omega)
    have t0' : (0 < i) = True := eq_true (by omega)
    by_cases h1 : i < bs.length
    · obtain ⟨k, rfl⟩ := Int.eq_ofNat_of_zero_le (Int.le_of_lt h0)
      have h1 : k < bs.length := by omega
      have t1 : ((k : Int) < (bs.length : Int)) = True := eq_true (by omega)
      have t2 : (k + 1 ≤ bs.length) = True := eq_true (by omega)
      have hsp := map_set_split bs k h1
      simp only [List.append_assoc, List.cons_append, List.nil_append] at hsp
      repeat (first | with_reducible first | refine den_seq ?_ | refine den_skip ?_ | refine den_scope ?_ | refine den_block ?_ | refine den_exit ?_ | refine den_blk_nrm ?_ | refine den_blk_ex ?_ | refine den_blk_ret ?_ | refine den_code_ex ?_ | refine den_code_ret ?_ | refine den_rd_ex ?_ | refine den_rd_ret ?_ | refine den_ret ?_ | ((with_reducible refine den_cond true ?_ (fun _ => ?_) (fun h => nomatch h)); focus (simp only [aev,cAV,cAV1,decide_true,decide_false,f_11,t0,t0',t1,wl,h3,ho,t2,List.length_map,List.append_assoc,hsp]; done)) | ((with_reducible refine den_cond false ?_ (fun h => nomatch h) (fun _ => ?_)); focus (simp only [aev,cAV,cAV1,decide_true,decide_false,f_11,t0,t0',t1,wl,h3,ho,t2,List.length_map,List.append_assoc,hsp]; done)) | ((with_reducible refine den_region fun nx hnx => ?_); simp only [List.toList_toArray,bB,aappend,anew,↓awp,↓aops,↓aop,↓aopV,aval,amake,astore,aload,↓aput,aev,aevs,aparts,cAV,cAV1,cAVs,gval,↓xthen,↓xblock,abinop,aeqA,aeqV,aeqFs,aeqIs,aints,abin,astr,aoth,aeq1,isEq,eqTy,aun,aconv,aint,aslice,afield,aidx,aindex,amin,apart,afill,areps,AV.cells,AV.one,aones,TI.agg,tmArgs,ares,aresl,ares1,reduceIte,reduceCtorEq,Nat.reduceLT,Nat.reduceLeDiff,Nat.reduceEqDiff,Nat.reduceAdd,Nat.reduceSub,Nat.reduceMul,Nat.reduceBEq,Nat.reduceBNe,Nat.reduceBeqDiff,Int.reduceLT,Int.reduceLE,Int.reduceEq,Int.reduceNeg,Int.reduceAdd,Int.reduceSub,Int.reduceMul,Int.reduceToNat,Int.reduceNe,bG,abytes,bT,f_0,f_1,f_11,t0,t0',t1,wl,h3,ho,t2,List.length_map,List.append_assoc,hsp]; with_reducible refine hnx _ _ ?_; clear hnx nx; refine den_forget fun tmX hTX => ?_; have g := TM.looks hTX [0,1,11]; simp only [TM.conj,Tr.get_put,Tr.get_leaf,Nat.reduceEqDiff,reduceIte,f_0,f_1,f_11] at g; clear f_0 f_1 f_11 hTX; obtain ⟨f_0,f_1,f_11⟩ := g))
      refine hq1 _ _ ⟨.tu [], rfl, rfl, ?_, ?_, (Heap.Agree.refl _ _).set (.inl (by simp)) _, rfl⟩
      · rw [Heap.get_set_ne _ _ (fun e => hne e.symm)]; exact h3
      · rw [Heap.get_set_self _ hbo]; unfold marked; rw [if_pos (by omega)]; rfl
    · have t1 : (i < (bs.length : Int)) = False := eq_false (by omega)
      repeat (first | with_reducible first | refine den_seq ?_ | refine den_skip ?_ | refine den_scope ?_ | refine den_block ?_ | refine den_exit ?_ | refine den_blk_nrm ?_ | refine den_blk_ex ?_ | refine den_blk_ret ?_ | refine den_code_ex ?_ | refine den_code_ret ?_ | refine den_rd_ex ?_ | refine den_rd_ret ?_ | refine den_ret ?_ | ((with_reducible refine den_cond true ?_ (fun _ => ?_) (fun h => nomatch h)); focus (simp only [aev,cAV,cAV1,decide_true,decide_false,f_11,t0,t0',t1,wl,h3]; done)) | ((with_reducible refine den_cond false ?_ (fun h => nomatch h) (fun _ => ?_)); focus (simp only [aev,cAV,cAV1,decide_true,decide_false,f_11,t0,t0',t1,wl,h3]; done)) | ((with_reducible refine den_region fun nx hnx => ?_); simp only [List.toList_toArray,bB,aappend,anew,↓awp,↓aops,↓aop,↓aopV,aval,amake,astore,aload,↓aput,aev,aevs,aparts,cAV,cAV1,cAVs,gval,↓xthen,↓xblock,abinop,aeqA,aeqV,aeqFs,aeqIs,aints,abin,astr,aoth,aeq1,isEq,eqTy,aun,aconv,aint,aslice,afield,aidx,aindex,amin,apart,afill,areps,AV.cells,AV.one,aones,TI.agg,tmArgs,ares,aresl,ares1,reduceIte,reduceCtorEq,Nat.reduceLT,Nat.reduceLeDiff,Nat.reduceEqDiff,Nat.reduceAdd,Nat.reduceSub,Nat.reduceMul,Nat.reduceBEq,Nat.reduceBNe,Nat.reduceBeqDiff,Int.reduceLT,Int.reduceLE,Int.reduceEq,Int.reduceNeg,Int.reduceAdd,Int.reduceSub,Int.reduceMul,Int.reduceToNat,Int.reduceNe,bG,abytes,bT,f_0,f_1,f_11,t0,t0',t1,wl,h3]; with_reducible refine hnx _ _ ?_; clear hnx nx; refine den_forget fun tmX hTX => ?_; have g := TM.looks hTX [0,1,11]; simp only [TM.conj,Tr.get_put,Tr.get_leaf,Nat.reduceEqDiff,reduceIte,f_0,f_1,f_11] at g; clear f_0 f_1 f_11 hTX; obtain ⟨f_0,f_1,f_11⟩ := g))
      refine hq1 _ _ ⟨.tu [], rfl, rfl, h3, ?_, Heap.Agree.refl _ _, rfl⟩
      rw [ho]; unfold marked; rw [if_neg (by omega)]
  · have t0 : (i > 0) = False := eq_false (by omega)
    have t0' : (0 < i) = False := eq_false (by omega)
    repeat (first | with_reducible first | refine den_seq ?_ | refine den_skip ?_ | refine den_scope ?_ | refine den_block ?_ | refine den_exit ?_ | refine den_blk_nrm ?_ | refine den_blk_ex ?_ | refine den_blk_ret ?_ | refine den_code_ex ?_ | refine den_code_ret ?_ | refine den_rd_ex ?_ | refine den_rd_ret ?_ | refine den_ret ?_ | ((with_reducible refine den_cond true ?_ (fun _ => ?_) (fun h => nomatch h)); focus (simp only [aev,cAV,cAV1,decide_true,decide_false,f_11,t0,t0']; done)) | ((with_reducible refine den_cond false ?_ (fun h => nomatch h) (fun _ => ?_)); focus (simp only [aev,cAV,cAV1,decide_true,decide_false,f_11,t0,t0']; done)) | ((with_reducible refine den_region fun nx hnx => ?_); simp only [List.toList_toArray,bB,aappend,anew,↓awp,↓aops,↓aop,↓aopV,aval,amake,astore,aload,↓aput,aev,aevs,aparts,cAV,cAV1,cAVs,gval,↓xthen,↓xblock,abinop,aeqA,aeqV,aeqFs,aeqIs,aints,abin,astr,aoth,aeq1,isEq,eqTy,aun,aconv,aint,aslice,afield,aidx,aindex,amin,apart,afill,areps,AV.cells,AV.one,aones,TI.agg,tmArgs,ares,aresl,ares1,reduceIte,reduceCtorEq,Nat.reduceLT,Nat.reduceLeDiff,Nat.reduceEqDiff,Nat.reduceAdd,Nat.reduceSub,Nat.reduceMul,Nat.reduceBEq,Nat.reduceBNe,Nat.reduceBeqDiff,Int.reduceLT,Int.reduceLE,Int.reduceEq,Int.reduceNeg,Int.reduceAdd,Int.reduceSub,Int.reduceMul,Int.reduceToNat,Int.reduceNe,bG,abytes,bT,f_0,f_1,f_11,t0,t0']; with_reducible refine hnx _ _ ?_; clear hnx nx; refine den_forget fun tmX hTX => ?_; have g := TM.looks hTX [0,1,11]; simp only [TM.conj,Tr.get_put,Tr.get_leaf,Nat.reduceEqDiff,reduceIte,f_0,f_1,f_11] at g; clear f_0 f_1 f_11 hTX; obtain ⟨f_0,f_1,f_11⟩ := g))
    refine hq1 _ _ ⟨.tu [], rfl, rfl, h3, ?_, Heap.Agree.refl _ _, rfl⟩
    rw [ho]; unfold marked; rw [if_neg (by omega)]
end Go.Proofs.YtnladombaepkkaaGreatDoor
