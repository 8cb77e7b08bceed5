/- Contract of (model.Model).Copy: new lists of its own. Conditions: none. -/
import Derived.Test.YtnladombaepkkaaGreatDoorBun
import Derived.Test.YtnladombaepkkaaGreatDoorClone
import Derived.Test.YtnladombaepkkaaGreatDoorMade
import Derived.Test.YtnladombaepkkaaGreatDoorAbsD
set_option linter.all false
--GROW
namespace Go.Proofs.YtnladombaepkkaaGreatDoor
open Go Go.Abs
/-- A list's block, as a table of blocks says: so many elements, of so many cells, of which one is a number. -/
abbrev Kd := Nat → Option (Nat × Nat × Nat)
def LK (kd : Kd) (n sz j : Nat) (v : AV) : Prop := (n = 0 ∧ v = .ns) ∨ ∃ b cap, v = .sl b 0 n cap ∧ kd b = some (n, sz, j)
theorem LK.one {kd : Kd} {n sz j : Nat} {v : AV} (h : LK kd n sz j v) : v.one = true := by
  obtain ⟨_, rfl⟩ | ⟨b, cap, rfl, _⟩ := h <;> rfl
def TY (K : Heap) (kd : Kd) (lo bs : Nat) : Prop := ∀ b n sz j, kd b = some (n, sz, j) → lo ≤ b ∧ b ≠ bs ∧ j < sz ∧ ∃ C : List AV, K.get b = some ⟨C, true⟩ ∧ C.length = n * sz ∧ ∀ i, i < n → ∃ z, C[i * sz + j]? = some (.i .u64 z)
theorem TY.mono {K K' : Heap} {kd : Kd} {lo bs : Nat} (h : TY K kd lo bs) (hs : ∀ b B, b ≠ bs → lo ≤ b → K.get b = some B → K'.get b = some B) : TY K' kd lo bs := by
  intro b n sz j hk
  obtain ⟨h1, h2, h3, C, h4, h5⟩ := h b n sz j hk
  exact ⟨h1, h2, h3, C, hs _ _ h2 h1 h4, h5⟩
theorem TY.upd {K : Heap} {kd : Kd} {lo bs : Nat} (h : TY K kd lo bs) {b n sz j : Nat} (h1 : lo ≤ b) (h2 : b ≠ bs) (h3 : j < sz) {C : List AV} (h4 : K.get b = some ⟨C, true⟩) (h5 : C.length = n * sz) (h6 : ∀ i, i < n → ∃ z, C[i * sz + j]? = some (.i .u64 z)) :
    TY K (fun c => if c = b then some (n, sz, j) else kd c) lo bs := by
  intro c n' sz' j' hk
  simp only at hk
  split at hk
  · rename_i e; cases hk; subst e; exact ⟨h1, h2, h3, C, h4, h5, h6⟩
  · exact h c n' sz' j' hk
theorem LK.upd {kd : Kd} {n sz j : Nat} {v : AV} (h : LK kd n sz j v) {b : Nat} (hb : kd b = none) (x : Nat × Nat × Nat) : LK (fun c => if c = b then some x else kd c) n sz j v := by
  rcases h with h | ⟨c, cap, h1, h2⟩
  · exact .inl h
  · refine .inr ⟨c, cap, h1, ?_⟩
    by_cases hc : c = b
    · subst hc; rw [hb] at h2; cases h2
    · simp only [if_neg hc, h2]
theorem TY.nd {K : Heap} {kd : Kd} {lo bs : Nat} (h : TY K kd lo bs) {b : Nat} (hb : K.next ≤ b) : kd b = none := by
  cases hk : kd b with
  | none => rfl
  | some x =>
    obtain ⟨n', sz', j'⟩ := x
    obtain ⟨_, _, _, C, h4, _⟩ := h b n' sz' j' hk
    exact absurd (Heap.lt_of_get h4) (by omega)
/-- A new list beside those of the table. -/
theorem kd_new {H0 K : Heap} {kd : Kd} {lo bs n sz j : Nat} {els : List (List AV)} {u : AV} (ht : TY H0 kd lo bs) (hs : H0.Sub K) (hu : Own0 H0 K sz els u) (hlo : lo ≤ H0.next) (hbs : bs < H0.next) (hn : els.length = n) (hj : j < sz)
    (he : ∀ i, i < n → ∃ z, els.flatten[i * sz + j]? = some (.i .u64 z)) : ∃ kd' : Kd, TY K kd' lo bs ∧ LK kd' n sz j u ∧ ∀ m s i v, LK kd m s i v → LK kd' m s i v := by
  have ht' : TY K kd lo bs := ht.mono fun b B _ _ hb => hs _ _ hb
  rcases hu with ⟨rfl, rfl⟩ | ⟨b, cap, rfl, h1, h2, h3, h4⟩
  · exact ⟨kd, ht', .inl ⟨by simpa using hn.symm, rfl⟩, fun _ _ _ _ h => h⟩
  · have hb := Heap.lt_of_get h1
    subst hn
    exact ⟨fun c => if c = b then some (els.length, sz, j) else kd c, ht'.upd (by omega) (by omega) hj h1 (flatten_len h4) he, .inr ⟨b, cap, rfl, by simp⟩, fun m s i v hv => hv.upd (ht.nd h2) _⟩
/-- A copy's sections: so many of the first have lists of their own. -/
structure CT (H K : Heap) (cs : List AV) (xs : List Sec) (k bs : Nat) (els : List (List AV)) (kd : Kd) : Prop where
  sub : H.Sub K
  g0 : K.get H.next = some ⟨cs, true⟩
  g1 : ∃ z, K.get (H.next + 1) = some ⟨z, true⟩ ∧ z.length = 12
  gb : K.get bs = some ⟨els.flatten, true⟩
  lo : H.next + 2 ≤ bs
  len : els.length = xs.length
  hd : ∀ i (h1 : i < xs.length) (h2 : i < els.length), ∃ a b d, els[i] = xs[i].h.cells a b d ∧ a.one = true ∧ b.one = true ∧ d.one = true ∧ (i < k → LK kd xs[i].syms.length 7 3 a ∧ LK kd xs[i].rels.length 4 0 b) ∧
    (k ≤ i → SlR H 7 (xs[i].syms.map SymD.cells) a ∧ SlR H 4 (xs[i].rels.map RelD.cells) b ∧ SlR H 1 (xs[i].mems.map fun m => [AV.i .u64 m]) d)
  ty : TY K kd (H.next + 2) bs
theorem CT.all13 {H K : Heap} {cs : List AV} {xs : List Sec} {k bs : Nat} {els : List (List AV)} {kd : Kd} (h : CT H K cs xs k bs els kd) : ∀ c ∈ els, c.length = 13 := by
  intro c hc
  obtain ⟨i, hi, rfl⟩ := List.getElem_of_mem hc
  obtain ⟨a, b, d, e, _⟩ := h.hd i (by rw [← h.len]; exact hi) hi
  rw [e]; rfl
theorem sym_typed (ys : List SymD) (i : Nat) (hi : i < ys.length) : ∃ z, (ys.map SymD.cells).flatten[i * 7 + 3]? = some (.i .u64 z) := by
  have h := flatten_at (els := ys.map SymD.cells) (sz := 7) (by intro c hc; obtain ⟨y, _, rfl⟩ := List.mem_map.1 hc; rfl) (i := i) (by simpa using hi)
  have := get_of_take h 3 (by omega)
  rw [List.getElem_map] at this
  exact ⟨_, this⟩
theorem rel_typed (ys : List RelD) (i : Nat) (hi : i < ys.length) : ∃ z, (ys.map RelD.cells).flatten[i * 4 + 0]? = some (.i .u64 z) := by
  have h := flatten_at (els := ys.map RelD.cells) (sz := 4) (by intro c hc; obtain ⟨y, _, rfl⟩ := List.mem_map.1 hc; rfl) (i := i) (by simpa using hi)
  have := get_of_take h 0 (by omega)
  rw [List.getElem_map] at this
  exact ⟨_, this⟩
theorem aones_append : ∀ (x y : List AV), aones x = true → aones y = true → aones (x ++ y) = true
  | [], _, _, h => h
  | a :: x, y, h1, h2 => by
    simp only [aones, Bool.and_eq_true, List.cons_append] at h1 ⊢
    exact ⟨h1.1, aones_append x y h1.2 h2⟩
theorem aones_map {α : Type} (f : α → List AV) (h : ∀ x, aones (f x) = true) : ∀ l : List α, aones (l.map f).flatten = true
  | [] => rfl
  | a :: l => aones_append _ _ (h a) (aones_map f h l)
theorem Secs.ones {K : Heap} : ∀ {xs : List Sec} {els : List (List AV)}, Secs K xs els → aones els.flatten = true
  | [], els, h => by simp only [Secs] at h; subst h; rfl
  | x :: xs, els, ⟨c, cs, h1, h2, h3⟩ => by
    subst h1
    refine aones_append _ _ ?_ h3.ones
    obtain ⟨a, b, d, rfl, p1, p2, p3⟩ := h2
    have oa := SlR.one p1
    have ob := SlR.one p2
    have od := SlR.one p3
    simp only [AV.one] at oa ob od
    simp only [SecH.cells, aones, AV.one, oa, ob, od, Bool.and_self]
theorem Own0.one {H K : Heap} {sz : Nat} {els : List (List AV)} {v : AV} (h : Own0 H K sz els v) : v.one = true := by
  rcases h with ⟨_, rfl⟩ | ⟨_, _, rfl, _⟩ <;> rfl
theorem CT.step {H K K1 K2 K3 : Heap} {cs : List AV} {xs : List Sec} {k bs : Nat} {els : List (List AV)} {kd : Kd} (h : CT H K cs xs k bs els kd) (hk : k < xs.length) (s1 : K.Sub K1) (s2 : K1.Sub K2) (s3 : K2.Sub K3) {u1 u2 u3 : AV}
    (o1 : Own0 K K1 7 (xs[k].syms.map SymD.cells) u1) (o2 : Own0 K1 K2 4 (xs[k].rels.map RelD.cells) u2) (o3 : u3.one = true) :
    ∃ kd', CT H (K3.set bs ⟨((els.flatten.set (k * 13 + 10) u1).set (k * 13 + 11) u2).set (k * 13 + 12) u3, true⟩) cs xs (k + 1) bs (els.set k (xs[k].h.cells u1 u2 u3)) kd' := by
  have hbs := Heap.lt_of_get h.gb
  have hbs1 := Heap.lt_of_get (s1 _ _ h.gb)
  have hbs3 := Heap.lt_of_get (s3 _ _ (s2 _ _ (s1 _ _ h.gb)))
  have hlo := h.lo
  have hke : k < els.length := by rw [h.len]; exact hk
  obtain ⟨kd1, t1, l1, m1⟩ := kd_new (n := xs[k].syms.length) (j := 3) h.ty s1 o1 (by omega) hbs (by simp) (by omega) (fun i hi => sym_typed _ i hi)
  obtain ⟨kd2, t2, l2, m2⟩ := kd_new (n := xs[k].rels.length) (j := 0) t1 s2 o2 (by omega) hbs1 (by simp) (by omega) (fun i hi => rel_typed _ i hi)
  have hne : ∀ c B, c ≠ bs → K3.get c = some B → (K3.set bs ⟨((els.flatten.set (k * 13 + 10) u1).set (k * 13 + 11) u2).set (k * 13 + 12) u3, true⟩).get c = some B := fun c B hc hB => by
    rw [Heap.get_set_ne _ _ (fun e => hc e.symm)]; exact hB
  have s13 : K.Sub K3 := s1.trans (s2.trans s3)
  refine ⟨kd2, ⟨?_, ?_, ?_, ?_, h.lo, by simp [h.len], ?_, ?_⟩⟩
  · exact fun c B hc => hne c B (by have := Heap.lt_of_get hc; omega) (s13 _ _ (h.sub _ _ hc))
  · exact hne _ _ (by omega) (s13 _ _ h.g0)
  · obtain ⟨z, hz, hl⟩ := h.g1
    exact ⟨z, hne _ _ (by omega) (s13 _ _ hz), hl⟩
  · rw [Heap.get_set_self _ hbs3]
    obtain ⟨a, b, d, e, _⟩ := h.hd k hk hke
    have hall := h.all13
    have e1 := flatten_set hall hke (j := 10) (by omega) u1
    have a1 : ∀ c ∈ els.set k (els[k].set 10 u1), c.length = 13 := by
      intro c hc
      rcases List.mem_or_eq_of_mem_set hc with hc | rfl
      · exact hall c hc
      · rw [e]; rfl
    have e2 := flatten_set a1 (i := k) (by simpa using hke) (j := 11) (by omega) u2
    have a2 : ∀ c ∈ (els.set k (els[k].set 10 u1)).set k (((els.set k (els[k].set 10 u1))[k]'(by simpa using hke)).set 11 u2), c.length = 13 := by
      intro c hc
      rcases List.mem_or_eq_of_mem_set hc with hc | rfl
      · exact a1 c hc
      · simp [e, SecH.cells]
    have e3 := flatten_set a2 (i := k) (by simpa using hke) (j := 12) (by omega) u3
    rw [e1, e2, e3]
    simp [e, SecH.cells]
  · intro i h1 h2
    by_cases hik : i = k
    · subst hik
      refine ⟨u1, u2, u3, by simp, o1.one, o2.one, o3, fun _ => ⟨m2 _ _ _ _ l1, l2⟩, fun hh => by omega⟩
    · obtain ⟨a, b, d, e, w1, w2, w3, w4, w5⟩ := h.hd i h1 (by simpa using h2)
      refine ⟨a, b, d, by rw [List.getElem_set_ne (fun e => hik e.symm)]; exact e, w1, w2, w3, fun hh => ?_, fun hh => w5 (by omega)⟩
      obtain ⟨y1, y2⟩ := w4 (by omega)
      exact ⟨m2 _ _ _ _ (m1 _ _ _ _ y1), m2 _ _ _ _ (m1 _ _ _ _ y2)⟩
  · exact (t2.mono fun c B _ _ hB => s3 _ _ hB).mono fun c B hc _ hB => hne c B hc hB
set_option maxRecDepth 20000 in
set_option maxHeartbeats 4000000 in
theorem copy_ok (big wide : Bool) (m2 m3 m4 m5 m6 m7 m8 : Int) (pd : List UInt8) (v5 v6 : AV) (xs : List Sec) (els : List (List AV)) (sg : List SegD) (H : Heap) (h5 : SlR H 13 els v5) (hx : Secs H xs els) (h6 : SlR H 7 (sg.map SegD.cells) v6) (hxl : xs.length ≤ 20) (hx0 : 0 < xs.length) (hsm : ∀ x ∈ xs, x.Small) (hsg : sg.length ≤ 3) :
    SCalls Tryz.prog 16 [.ag [.b big, .b wide, .i .u8 m2, .i .u8 m3, .s pd, .i .u64 m4, .i .u64 m5, .i .u64 m6, .i .u64 m7, .i .u64 m8, v5, v6]] H (fun v K => H.Sub K ∧ ∃ (bs : Nat) (cap : Cap) (v6' : AV) (els' : List (List AV)) (kd : Kd), v = .ag [.b big, .b wide, .i .u8 m2, .i .u8 m3, .s pd, .i .u64 m4, .i .u64 m5, .i .u64 m6, .i .u64 m7, .i .u64 m8, .sl bs 0 xs.length cap, v6'] ∧ CT H K [.b big, .b wide, .i .u8 m2, .i .u8 m3, .s pd, .i .u64 m4, .i .u64 m5, .i .u64 m6, .i .u64 m7, .i .u64 m8, .sl bs 0 xs.length cap, v6'] xs xs.length bs els' kd ∧ SlR K 7 (sg.map SegD.cells) v6') := by
  have hel := hx.length
  have o5 := SlR.one h5
  have o6 := SlR.one h6
  simp only [AV.one] at o5 o6
  refine SCalls.of_den (D := fun | 1 => [(0, 0, [], false), (1, 1, [], false), (3, 0, [], false), (4, 8, [], false), (2, 3, [4], false), (6, 31, [], false), (5, 31, [], false), (7, 127, [], false), (8, 255, [], false), (9, 511, [], false)] | 6 => [(0, 0, [], false), (1, 0, [], false), (2, 0, [], false), (3, 0, [], false), (4, 8, [], false), (5, 24, [], false), (6, 56, [], false), (8, 0, [], false), (9, 256, [], false), (10, 768, [], false), (11, 1792, [], false), (13, 0, [], false), (14, 8192, [], false), (15, 24576, [], false), (16, 57344, [], false), (7, 120, [11, 16], false), (12, 4088, [16], false), (17, 131064, [], false), (18, 262137, [], false), (19, 524281, [], false), (20, 1048569, [], false), (21, 2097147, [], false), (22, 4194299, [], false), (23, 8388603, [], false), (24, 16777215, [], false), (25, 33554431, [], false), (26, 67108863, [], false)] | _ => []) (nt := 49) (res := [.cell 2 44]) hC mix Tryz.func16 rfl rfl rfl rfl (by simp) fun Q hq1 hq2 => ?_; simp only [tmArgs]; have f_0 := Nat.add_zero 0; have f_1 := Nat.add_zero 0; have f_2 := Nat.add_zero 0; have f_3 := Nat.add_zero 0; have f_4 := Nat.add_zero 0; have f_15 := Nat.add_zero 0; have f_16 := Nat.add_zero 0; have f_17 := Nat.add_zero 0; refine den_forget fun tmX hTX => ?_; have g := TM.looks hTX [0,1,2,3,4,15,16,17]; simp only [TM.conj,Tr.get_put,Tr.get_leaf,Nat.reduceEqDiff,reduceIte,f_0,f_1,f_2,f_3,f_4,f_15,f_16,f_17] at g; clear f_0 f_1 f_2 f_3 f_4 f_15 f_16 f_17 hTX; obtain ⟨f_0,f_1,f_2,f_3,f_4,f_15,f_16,f_17⟩ := g
  repeat (first | with_reducible first | refine den_seq ?_ | refine den_skip ?_ | refine den_scope ?_ | refine den_block ?_ | refine den_exit ?_ | refine den_blk_nrm ?_ | refine den_blk_ex ?_ | refine den_blk_ret ?_ | refine den_code_ex ?_ | refine den_code_ret ?_ | refine den_rd_ex ?_ | refine den_rd_ret ?_ | refine den_ret ?_ | ((with_reducible refine den_cond true ?_ (fun _ => ?_) (fun h => nomatch h)); focus (simp only [aev,cAV,cAV1,decide_true,decide_false,f_17]; done)) | ((with_reducible refine den_cond false ?_ (fun h => nomatch h) (fun _ => ?_)); focus (simp only [aev,cAV,cAV1,decide_true,decide_false,f_17]; done)) | ((with_reducible refine den_region fun nx hnx => ?_); simp only [List.toList_toArray,bB,aappend,anew,↓awp,↓aops,↓aop,↓aopV,aval,amake,astore,aload,↓aput,aev,aevs,aparts,cAV,cAV1,cAVs,gval,↓xthen,↓xblock,abinop,aeqA,aeqV,aeqFs,aeqIs,aints,abin,astr,aoth,aeq1,isEq,eqTy,aun,aconv,aint,aslice,afield,aidx,aindex,amin,apart,afill,areps,AV.cells,AV.one,aones,TI.agg,tmArgs,ares,aresl,ares1,reduceIte,reduceCtorEq,Nat.reduceLT,Nat.reduceLeDiff,Nat.reduceEqDiff,Nat.reduceAdd,Nat.reduceSub,Nat.reduceMul,Nat.reduceBEq,Nat.reduceBNe,Nat.reduceBeqDiff,Int.reduceLT,Int.reduceLE,Int.reduceEq,Int.reduceNeg,Int.reduceAdd,Int.reduceSub,Int.reduceMul,Int.reduceToNat,Int.reduceNe,bG,abytes,bT,f_0,f_1,f_2,f_3,f_4,f_15,f_16,f_17]; with_reducible refine hnx _ _ ?_; clear hnx nx; refine den_forget fun tmX hTX => ?_; have g := TM.looks hTX [0,1,2,3,4,15,16,17]; simp only [TM.conj,Tr.get_put,Tr.get_leaf,Nat.reduceEqDiff,reduceIte,f_0,f_1,f_2,f_3,f_4,f_15,f_16,f_17] at g; clear f_0 f_1 f_2 f_3 f_4 f_15 f_16 f_17 hTX; obtain ⟨f_0,f_1,f_2,f_3,f_4,f_15,f_16,f_17⟩ := g))
  (repeat (with_reducible first | refine den_seq ?_ | refine den_skip ?_ | refine den_scope ?_ | refine den_block ?_ | refine den_exit ?_ | refine den_blk_nrm ?_ | refine den_blk_ex ?_ | refine den_blk_ret ?_ | refine den_code_ex ?_ | refine den_code_ret ?_ | refine den_rd_ex ?_ | refine den_rd_ret ?_ | refine den_ret ?_)); with_reducible refine den_draw (by kernel_rfl) fun nx hnx => ?_; simp only [adraw, achk, remake, AV.rebase, AV.p.injEq, exists_eq_right', or_true, true_or, false_or, or_false, false_and, mk_alloc ty3, mk_alloc ty4, mk_alloc ty5, mk_alloc ty9, mk_alloc ty29, mk_alloc ty36, mk_alloc ty38, mk_alloc ty40, mk_alloc ty41, mk_alloc ty42, mk_alloc ty44, mk_alloc ty57, mk_alloc ty70, mk_alloc ty71, mk_alloc ty73, mk_alloc ty74, mk_alloc ty75, mk_alloc ty120, bB,aappend,anew,↓awp,↓aops,↓aop,↓aopV,aval,amake,astore,aload,↓aput,aev,aevs,aparts,cAV,cAV1,cAVs,gval,↓xthen,↓xblock,abinop,aeqA,aeqV,aeqFs,aeqIs,aints,abin,astr,aoth,aeq1,isEq,eqTy,aun,aconv,aint,aslice,afield,aidx,aindex,amin,apart,afill,areps,AV.cells,AV.one,aones,TI.agg,tmArgs,ares,aresl,ares1,reduceIte,reduceCtorEq,Nat.reduceLT,Nat.reduceLeDiff,Nat.reduceEqDiff,Nat.reduceAdd,Nat.reduceSub,Nat.reduceMul,Nat.reduceBEq,Nat.reduceBNe,Nat.reduceBeqDiff,Int.reduceLT,Int.reduceLE,Int.reduceEq,Int.reduceNeg,Int.reduceAdd,Int.reduceSub,Int.reduceMul,Int.reduceToNat,Int.reduceNe,bG,abytes,bT,f_0,f_1,f_2,f_3,f_4,f_15,f_16,f_17]
  refine (clone33_ok els v5 _ (h5.mono (Heap.sub_grow _ _)) (by omega) hx.ones).mono ?_
  rintro u5 K1 ⟨hs1, ho5⟩
  have g0 := hs1 H.next _ (by simp only [Heap.get_grow0, List.getD_cons_zero]; rfl)
  have g1 := hs1 (H.next + 1) _ (by simp only [Heap.get_grow, List.getD_cons_succ, List.getD_cons_zero]; rfl)
  try simp only [adraw, achk, remake, AV.rebase, AV.p.injEq, exists_eq_right', or_true, true_or, false_or, or_false, false_and, mk_alloc ty3, mk_alloc ty4, mk_alloc ty5, mk_alloc ty9, mk_alloc ty29, mk_alloc ty36, mk_alloc ty38, mk_alloc ty40, mk_alloc ty41, mk_alloc ty42, mk_alloc ty44, mk_alloc ty57, mk_alloc ty70, mk_alloc ty71, mk_alloc ty73, mk_alloc ty74, mk_alloc ty75, mk_alloc ty120, bB,aappend,anew,↓awp,↓aops,↓aop,↓aopV,aval,amake,astore,aload,↓aput,aev,aevs,aparts,cAV,cAV1,cAVs,gval,↓xthen,↓xblock,abinop,aeqA,aeqV,aeqFs,aeqIs,aints,abin,astr,aoth,aeq1,isEq,eqTy,aun,aconv,aint,aslice,afield,aidx,aindex,amin,apart,afill,areps,AV.cells,AV.one,aones,TI.agg,tmArgs,ares,aresl,ares1,reduceIte,reduceCtorEq,Nat.reduceLT,Nat.reduceLeDiff,Nat.reduceEqDiff,Nat.reduceAdd,Nat.reduceSub,Nat.reduceMul,Nat.reduceBEq,Nat.reduceBNe,Nat.reduceBeqDiff,Int.reduceLT,Int.reduceLE,Int.reduceEq,Int.reduceNeg,Int.reduceAdd,Int.reduceSub,Int.reduceMul,Int.reduceToNat,Int.reduceNe,bG,abytes,bT,f_0,f_1,f_2,f_3,f_4,f_15,f_16,f_17,g0,g1]
  refine (clone34_ok (sg.map SegD.cells) v6 _ ((h6.mono (Heap.sub_grow _ _)).mono hs1) (by simp; omega) (aones_map _ (fun _ => rfl) sg)).mono ?_
  rintro u6 K2 ⟨hs2, ho6⟩
  have g0' := hs2 _ _ g0
  have g1' := hs2 _ _ g1
  have q5 := ho5.one
  have q6 := ho6.one
  have q5c := one_cells q5
  have q6c := one_cells q6
  simp only [AV.one] at q5 q6
  simp only [AV.cells] at q5c q6c
  have hgs : ∀ x, (K2.set H.next x).get H.next = some x := fun x => Heap.get_set_self x (Heap.lt_of_get g0')
  try simp only [adraw, achk, remake, AV.rebase, AV.p.injEq, exists_eq_right', or_true, true_or, false_or, or_false, false_and, mk_alloc ty3, mk_alloc ty4, mk_alloc ty5, mk_alloc ty9, mk_alloc ty29, mk_alloc ty36, mk_alloc ty38, mk_alloc ty40, mk_alloc ty41, mk_alloc ty42, mk_alloc ty44, mk_alloc ty57, mk_alloc ty70, mk_alloc ty71, mk_alloc ty73, mk_alloc ty74, mk_alloc ty75, mk_alloc ty120, bB,aappend,anew,↓awp,↓aops,↓aop,↓aopV,aval,amake,astore,aload,↓aput,aev,aevs,aparts,cAV,cAV1,cAVs,gval,↓xthen,↓xblock,abinop,aeqA,aeqV,aeqFs,aeqIs,aints,abin,astr,aoth,aeq1,isEq,eqTy,aun,aconv,aint,aslice,afield,aidx,aindex,amin,apart,afill,areps,AV.cells,AV.one,aones,TI.agg,tmArgs,ares,aresl,ares1,reduceIte,reduceCtorEq,Nat.reduceLT,Nat.reduceLeDiff,Nat.reduceEqDiff,Nat.reduceAdd,Nat.reduceSub,Nat.reduceMul,Nat.reduceBEq,Nat.reduceBNe,Nat.reduceBeqDiff,Int.reduceLT,Int.reduceLE,Int.reduceEq,Int.reduceNeg,Int.reduceAdd,Int.reduceSub,Int.reduceMul,Int.reduceToNat,Int.reduceNe,bG,abytes,bT,f_0,f_1,f_2,f_3,f_4,f_15,f_16,f_17,g0',q5,q6,q5c,q6c,hgs,Heap.set_set]
  with_reducible refine hnx _ _ ?_; clear hnx nx; refine den_forget fun tmX hTX => ?_; have g := TM.looks hTX [0,1,2,3,4,15,16,17]; simp only [TM.conj,Tr.get_put,Tr.get_leaf,Nat.reduceEqDiff,reduceIte,f_0,f_1,f_2,f_3,f_4,f_15,f_16,f_17] at g; clear f_0 f_1 f_2 f_3 f_4 f_15 f_16 f_17 hTX; obtain ⟨f_0,f_1,f_2,f_3,f_4,f_15,f_16,f_17⟩ := g
  have hsub : H.Sub K2 := ((Heap.sub_grow _ _).trans hs1).trans hs2
  have hn0 : H.next < K2.next := Heap.lt_of_get g0'
  obtain ⟨bs, cap, rfl, hb1, hb2⟩ : ∃ bs cap, u5 = .sl bs 0 xs.length cap ∧ K1.get bs = some ⟨els.flatten, true⟩ ∧ H.next + 2 ≤ bs := by
    rcases ho5 with ⟨h0, _⟩ | ⟨bs, cap, e1, e2, e3, _⟩
    · subst h0; simp at hel; omega
    · rw [hel] at e1; exact ⟨bs, cap, e1, e2, by rw [Heap.next_grow] at e3; exact e3⟩
  have hb1' := hs2 _ _ hb1
  have hu6 : SlR K2 7 (sg.map SegD.cells) u6 := ho6.sl (fun b B _ hB => hB)
  have hu6' : SlR (K2.set H.next ⟨[.b big, .b wide, .i .u8 m2, .i .u8 m3, .s pd, .i .u64 m4, .i .u64 m5, .i .u64 m6, .i .u64 m7, .i .u64 m8, .sl bs 0 xs.length cap, u6], true⟩) 7 (sg.map SegD.cells) u6 := by
    refine ho6.sl (fun b B hb hB => ?_)
    have := Heap.lt_of_get g0
    rw [Heap.get_set_ne _ _ (by omega)]; exact hB
  have hCT : CT H (K2.set H.next ⟨[.b big, .b wide, .i .u8 m2, .i .u8 m3, .s pd, .i .u64 m4, .i .u64 m5, .i .u64 m6, .i .u64 m7, .i .u64 m8, .sl bs 0 xs.length cap, u6], true⟩) [.b big, .b wide, .i .u8 m2, .i .u8 m3, .s pd, .i .u64 m4, .i .u64 m5, .i .u64 m6, .i .u64 m7, .i .u64 m8, .sl bs 0 xs.length cap, u6] xs 0 bs els (fun _ => none) := by
    have hne : ∀ c B x, c ≠ H.next → K2.get c = some B → (K2.set H.next x).get c = some B := fun c B x hc hB => by
      rw [Heap.get_set_ne _ _ (fun e => hc e.symm)]; exact hB
    refine ⟨fun c B hc => hne c B _ (by have := Heap.lt_of_get hc; omega) (hsub _ _ hc), hgs _, ⟨_, hne _ _ _ (by omega) g1', rfl⟩, hne _ _ _ (by omega) hb1', hb2, hel, ?_, fun b n sz j h => by cases h⟩
    intro i h1 h2
    obtain ⟨a, b, d, e, w1, w2, w3⟩ := hx.at h1 h2
    exact ⟨a, b, d, e, SlR.one w1, SlR.one w2, SlR.one w3, fun hh => by omega, fun _ => ⟨w1, w2, w3⟩⟩
  have hne6 : ∀ b o n c, u6 = .sl b o n c → b ≠ bs ∧ b ≠ H.next + 1 := by
    intro b o n c e
    rcases ho6 with ⟨_, rfl⟩ | ⟨b', c', e', _, e2, _⟩
    · cases e
    · rw [e] at e'; cases e'; have := Heap.lt_of_get hb1; have := Heap.lt_of_get g1; omega
  refine den_heap (M := fun K => CT H K [.b big, .b wide, .i .u8 m2, .i .u8 m3, .s pd, .i .u64 m4, .i .u64 m5, .i .u64 m6, .i .u64 m7, .i .u64 m8, .sl bs 0 xs.length cap, u6] xs 0 bs els (fun _ => none) ∧ SlR K 7 (sg.map SegD.cells) u6) ⟨hCT, hu6'⟩ ?_
  clear hCT hu6 hu6' hb1 hb1' hn0 hsub hgs g0 g1 g0' g1' hs1 hs2 ho5 ho6 hb2 q5 q5c q6c
  rintro K ⟨hC, hu6⟩
  have g0 := hC.g0
  repeat (first | with_reducible first | refine den_seq ?_ | refine den_skip ?_ | refine den_scope ?_ | refine den_block ?_ | refine den_exit ?_ | refine den_blk_nrm ?_ | refine den_blk_ex ?_ | refine den_blk_ret ?_ | refine den_code_ex ?_ | refine den_code_ret ?_ | refine den_rd_ex ?_ | refine den_rd_ret ?_ | refine den_ret ?_ | ((with_reducible refine den_cond true ?_ (fun _ => ?_) (fun h => nomatch h)); focus (simp only [aev,cAV,cAV1,decide_true,decide_false,f_17,g0]; done)) | ((with_reducible refine den_cond false ?_ (fun h => nomatch h) (fun _ => ?_)); focus (simp only [aev,cAV,cAV1,decide_true,decide_false,f_17,g0]; done)) | ((with_reducible refine den_region fun nx hnx => ?_); simp only [List.toList_toArray,bB,aappend,anew,↓awp,↓aops,↓aop,↓aopV,aval,amake,astore,aload,↓aput,aev,aevs,aparts,cAV,cAV1,cAVs,gval,↓xthen,↓xblock,abinop,aeqA,aeqV,aeqFs,aeqIs,aints,abin,astr,aoth,aeq1,isEq,eqTy,aun,aconv,aint,aslice,afield,aidx,aindex,amin,apart,afill,areps,AV.cells,AV.one,aones,TI.agg,tmArgs,ares,aresl,ares1,reduceIte,reduceCtorEq,Nat.reduceLT,Nat.reduceLeDiff,Nat.reduceEqDiff,Nat.reduceAdd,Nat.reduceSub,Nat.reduceMul,Nat.reduceBEq,Nat.reduceBNe,Nat.reduceBeqDiff,Int.reduceLT,Int.reduceLE,Int.reduceEq,Int.reduceNeg,Int.reduceAdd,Int.reduceSub,Int.reduceMul,Int.reduceToNat,Int.reduceNe,bG,abytes,bT,f_0,f_1,f_2,f_3,f_4,f_15,f_16,f_17,g0]; with_reducible refine hnx _ _ ?_; clear hnx nx; refine den_forget fun tmX hTX => ?_; have g := TM.looks hTX [0,1,2,3,4,15,16,17]; simp only [TM.conj,Tr.get_put,Tr.get_leaf,Nat.reduceEqDiff,reduceIte,f_0,f_1,f_2,f_3,f_4,f_15,f_16,f_17] at g; clear f_0 f_1 f_2 f_3 f_4 f_15 f_16 f_17 hTX; obtain ⟨f_0,f_1,f_2,f_3,f_4,f_15,f_16,f_17⟩ := g))
  refine den_loop_fr (fun m tm K => ∃ (k : Nat) (els1 : List (List AV)) (kd : Kd), k ≤ xs.length ∧ m = xs.length - k ∧ tm.get 16 = some (.i .i64 k) ∧ CT H K [.b big, .b wide, .i .u8 m2, .i .u8 m3, .s pd, .i .u64 m4, .i .u64 m5, .i .u64 m6, .i .u64 m7, .i .u64 m8, .sl bs 0 xs.length cap, u6] xs k bs els1 kd ∧ SlR K 7 (sg.map SegD.cells) u6) xs.length ⟨0, els, _, by omega, rfl, f_16, hC, hu6⟩ ?_
  clear hC hu6 g0
  rintro m tm K hoff ⟨k, els1, kd, hk, rfl, f_16, hC, hu6⟩
  (try replace f_0 := (hoff 0 (by decide +kernel)).trans f_0); (try replace f_1 := (hoff 1 (by decide +kernel)).trans f_1); (try replace f_2 := (hoff 2 (by decide +kernel)).trans f_2); (try replace f_3 := (hoff 3 (by decide +kernel)).trans f_3); (try replace f_4 := (hoff 4 (by decide +kernel)).trans f_4); (try replace f_15 := (hoff 15 (by decide +kernel)).trans f_15); (try replace f_16 := (hoff 16 (by decide +kernel)).trans f_16); (try replace f_17 := (hoff 17 (by decide +kernel)).trans f_17); clear hoff
  have g0 := hC.g0
  have gb := hC.gb
  by_cases hlt : k < xs.length
  · have d1 : ((k : Int) < (xs.length : Int)) = True := eq_true (by omega)
    have hke : k < els1.length := by rw [hC.len]; exact hlt
    obtain ⟨a, b, d, e1, oa, ob, od, _, e2⟩ := hC.hd k hlt hke
    obtain ⟨p1, p2, p3⟩ := e2 (Nat.le_refl _)
    have hcell := flatten_at hC.all13 hke
    have hfl := flatten_len hC.all13
    rw [e1] at hcell
    rw [hC.len] at hfl
    have ca := get_of_take hcell 10 (by omega)
    have cb := get_of_take hcell 11 (by omega)
    have cd := get_of_take hcell 12 (by omega)
    simp only [SecH.cells, List.getElem?_cons_succ, List.getElem?_cons_zero] at ca cb cd
    have wk : IntKind.i64.wrap ((k : Int) + 1) = ((k + 1 : Nat) : Int) := w64s (by omega)
    repeat (first | with_reducible first | refine den_seq ?_ | refine den_skip ?_ | refine den_scope ?_ | refine den_block ?_ | refine den_exit ?_ | refine den_blk_nrm ?_ | refine den_blk_ex ?_ | refine den_blk_ret ?_ | refine den_code_ex ?_ | refine den_code_ret ?_ | refine den_rd_ex ?_ | refine den_rd_ret ?_ | refine den_ret ?_ | ((with_reducible refine den_cond true ?_ (fun _ => ?_) (fun h => nomatch h)); focus (simp only [aev,cAV,cAV1,decide_true,decide_false,f_17,d1,g0]; done)) | ((with_reducible refine den_cond false ?_ (fun h => nomatch h) (fun _ => ?_)); focus (simp only [aev,cAV,cAV1,decide_true,decide_false,f_17,d1,g0]; done)) | ((with_reducible refine den_region fun nx hnx => ?_); simp only [List.toList_toArray,bB,aappend,anew,↓awp,↓aops,↓aop,↓aopV,aval,amake,astore,aload,↓aput,aev,aevs,aparts,cAV,cAV1,cAVs,gval,↓xthen,↓xblock,abinop,aeqA,aeqV,aeqFs,aeqIs,aints,abin,astr,aoth,aeq1,isEq,eqTy,aun,aconv,aint,aslice,afield,aidx,aindex,amin,apart,afill,areps,AV.cells,AV.one,aones,TI.agg,tmArgs,ares,aresl,ares1,reduceIte,reduceCtorEq,Nat.reduceLT,Nat.reduceLeDiff,Nat.reduceEqDiff,Nat.reduceAdd,Nat.reduceSub,Nat.reduceMul,Nat.reduceBEq,Nat.reduceBNe,Nat.reduceBeqDiff,Int.reduceLT,Int.reduceLE,Int.reduceEq,Int.reduceNeg,Int.reduceAdd,Int.reduceSub,Int.reduceMul,Int.reduceToNat,Int.reduceNe,bG,abytes,bT,f_0,f_1,f_2,f_3,f_4,f_15,f_16,f_17,d1,g0]; with_reducible refine hnx _ _ ?_; clear hnx nx; refine den_forget fun tmX hTX => ?_; have g := TM.looks hTX [0,1,2,3,4,15,16,17]; simp only [TM.conj,Tr.get_put,Tr.get_leaf,Nat.reduceEqDiff,reduceIte,f_0,f_1,f_2,f_3,f_4,f_15,f_16,f_17] at g; clear f_0 f_1 f_2 f_3 f_4 f_15 f_16 f_17 hTX; obtain ⟨f_0,f_1,f_2,f_3,f_4,f_15,f_16,f_17⟩ := g))
    (repeat (with_reducible first | refine den_seq ?_ | refine den_skip ?_ | refine den_scope ?_ | refine den_block ?_ | refine den_exit ?_ | refine den_blk_nrm ?_ | refine den_blk_ex ?_ | refine den_blk_ret ?_ | refine den_code_ex ?_ | refine den_code_ret ?_ | refine den_rd_ex ?_ | refine den_rd_ret ?_ | refine den_ret ?_)); with_reducible refine den_draw (by kernel_rfl) fun nx hnx => ?_; simp only [adraw, achk, remake, AV.rebase, AV.p.injEq, exists_eq_right', or_true, true_or, false_or, or_false, false_and, mk_alloc ty3, mk_alloc ty4, mk_alloc ty5, mk_alloc ty9, mk_alloc ty29, mk_alloc ty36, mk_alloc ty38, mk_alloc ty40, mk_alloc ty41, mk_alloc ty42, mk_alloc ty44, mk_alloc ty57, mk_alloc ty70, mk_alloc ty71, mk_alloc ty73, mk_alloc ty74, mk_alloc ty75, mk_alloc ty120, bB,aappend,anew,↓awp,↓aops,↓aop,↓aopV,aval,amake,astore,aload,↓aput,aev,aevs,aparts,cAV,cAV1,cAVs,gval,↓xthen,↓xblock,abinop,aeqA,aeqV,aeqFs,aeqIs,aints,abin,astr,aoth,aeq1,isEq,eqTy,aun,aconv,aint,aslice,afield,aidx,aindex,amin,apart,afill,areps,AV.cells,AV.one,aones,TI.agg,tmArgs,ares,aresl,ares1,reduceIte,reduceCtorEq,Nat.reduceLT,Nat.reduceLeDiff,Nat.reduceEqDiff,Nat.reduceAdd,Nat.reduceSub,Nat.reduceMul,Nat.reduceBEq,Nat.reduceBNe,Nat.reduceBeqDiff,Int.reduceLT,Int.reduceLE,Int.reduceEq,Int.reduceNeg,Int.reduceAdd,Int.reduceSub,Int.reduceMul,Int.reduceToNat,Int.reduceNe,bG,abytes,bT,f_0,f_1,f_2,f_3,f_4,f_15,f_16,f_17,gb,ca,cb,cd]
    refine (clone35_ok _ a _ (p1.mono hC.sub) (by have := (hsm _ (List.getElem_mem hlt)).1; simp; omega) (aones_map _ (fun _ => rfl) _)).mono ?_
    rintro w1 K1 ⟨hs1, ho1⟩
    have gb1 := hs1 _ _ gb
    try simp only [adraw, achk, remake, AV.rebase, AV.p.injEq, exists_eq_right', or_true, true_or, false_or, or_false, false_and, mk_alloc ty3, mk_alloc ty4, mk_alloc ty5, mk_alloc ty9, mk_alloc ty29, mk_alloc ty36, mk_alloc ty38, mk_alloc ty40, mk_alloc ty41, mk_alloc ty42, mk_alloc ty44, mk_alloc ty57, mk_alloc ty70, mk_alloc ty71, mk_alloc ty73, mk_alloc ty74, mk_alloc ty75, mk_alloc ty120, bB,aappend,anew,↓awp,↓aops,↓aop,↓aopV,aval,amake,astore,aload,↓aput,aev,aevs,aparts,cAV,cAV1,cAVs,gval,↓xthen,↓xblock,abinop,aeqA,aeqV,aeqFs,aeqIs,aints,abin,astr,aoth,aeq1,isEq,eqTy,aun,aconv,aint,aslice,afield,aidx,aindex,amin,apart,afill,areps,AV.cells,AV.one,aones,TI.agg,tmArgs,ares,aresl,ares1,reduceIte,reduceCtorEq,Nat.reduceLT,Nat.reduceLeDiff,Nat.reduceEqDiff,Nat.reduceAdd,Nat.reduceSub,Nat.reduceMul,Nat.reduceBEq,Nat.reduceBNe,Nat.reduceBeqDiff,Int.reduceLT,Int.reduceLE,Int.reduceEq,Int.reduceNeg,Int.reduceAdd,Int.reduceSub,Int.reduceMul,Int.reduceToNat,Int.reduceNe,bG,abytes,bT,f_0,f_1,f_2,f_3,f_4,f_15,f_16,f_17,gb1,ca,cb,cd]
    refine (clone36_ok _ b _ ((p2.mono hC.sub).mono hs1) (by have := (hsm _ (List.getElem_mem hlt)).2.1; simp; omega) (aones_map _ (fun _ => rfl) _)).mono ?_
    rintro w2 K2 ⟨hs2, ho2⟩
    have gb2 := hs2 _ _ gb1
    try simp only [adraw, achk, remake, AV.rebase, AV.p.injEq, exists_eq_right', or_true, true_or, false_or, or_false, false_and, mk_alloc ty3, mk_alloc ty4, mk_alloc ty5, mk_alloc ty9, mk_alloc ty29, mk_alloc ty36, mk_alloc ty38, mk_alloc ty40, mk_alloc ty41, mk_alloc ty42, mk_alloc ty44, mk_alloc ty57, mk_alloc ty70, mk_alloc ty71, mk_alloc ty73, mk_alloc ty74, mk_alloc ty75, mk_alloc ty120, bB,aappend,anew,↓awp,↓aops,↓aop,↓aopV,aval,amake,astore,aload,↓aput,aev,aevs,aparts,cAV,cAV1,cAVs,gval,↓xthen,↓xblock,abinop,aeqA,aeqV,aeqFs,aeqIs,aints,abin,astr,aoth,aeq1,isEq,eqTy,aun,aconv,aint,aslice,afield,aidx,aindex,amin,apart,afill,areps,AV.cells,AV.one,aones,TI.agg,tmArgs,ares,aresl,ares1,reduceIte,reduceCtorEq,Nat.reduceLT,Nat.reduceLeDiff,Nat.reduceEqDiff,Nat.reduceAdd,Nat.reduceSub,Nat.reduceMul,Nat.reduceBEq,Nat.reduceBNe,Nat.reduceBeqDiff,Int.reduceLT,Int.reduceLE,Int.reduceEq,Int.reduceNeg,Int.reduceAdd,Int.reduceSub,Int.reduceMul,Int.reduceToNat,Int.reduceNe,bG,abytes,bT,f_0,f_1,f_2,f_3,f_4,f_15,f_16,f_17,gb2,ca,cb,cd]
    refine (clone37_ok _ d _ (((p3.mono hC.sub).mono hs1).mono hs2) (by have := (hsm _ (List.getElem_mem hlt)).2.2.1; simp; omega) (aones_map _ (fun _ => rfl) _)).mono ?_
    rintro w3 K3 ⟨hs3, ho3⟩
    have gb3 := hs3 _ _ gb2
    have hgs : ∀ x, (K3.set bs x).get bs = some x := fun x => Heap.get_set_self x (Heap.lt_of_get gb3)
    have q1 := ho1.one
    have q2 := ho2.one
    have q3 := ho3.one
    obtain ⟨kd', hC'⟩ := hC.step hlt hs1 hs2 hs3 ho1 ho2 q3
    have q1c := one_cells q1
    have q2c := one_cells q2
    have q3c := one_cells q3
    simp only [AV.one] at q1 q2 q3
    simp only [AV.cells] at q1c q2c q3c
    have r1 : (k * 13 + 10 + 1 ≤ els1.flatten.length) = True := eq_true (by omega)
    have r2 : (k * 13 + 11 + 1 ≤ els1.flatten.length) = True := eq_true (by omega)
    have r3 : (k * 13 + 12 + 1 ≤ els1.flatten.length) = True := eq_true (by omega)
    have t1 := splice_set els1.flatten (k * 13 + 10) w1 (by omega)
    have t2 := splice_set (els1.flatten.set (k * 13 + 10) w1) (k * 13 + 11) w2 (by rw [List.length_set]; omega)
    have t3 := splice_set ((els1.flatten.set (k * 13 + 10) w1).set (k * 13 + 11) w2) (k * 13 + 12) w3 (by rw [List.length_set, List.length_set]; omega)
    try simp only [adraw, achk, remake, AV.rebase, AV.p.injEq, exists_eq_right', or_true, true_or, false_or, or_false, false_and, mk_alloc ty3, mk_alloc ty4, mk_alloc ty5, mk_alloc ty9, mk_alloc ty29, mk_alloc ty36, mk_alloc ty38, mk_alloc ty40, mk_alloc ty41, mk_alloc ty42, mk_alloc ty44, mk_alloc ty57, mk_alloc ty70, mk_alloc ty71, mk_alloc ty73, mk_alloc ty74, mk_alloc ty75, mk_alloc ty120, bB,aappend,anew,↓awp,↓aops,↓aop,↓aopV,aval,amake,astore,aload,↓aput,aev,aevs,aparts,cAV,cAV1,cAVs,gval,↓xthen,↓xblock,abinop,aeqA,aeqV,aeqFs,aeqIs,aints,abin,astr,aoth,aeq1,isEq,eqTy,aun,aconv,aint,aslice,afield,aidx,aindex,amin,apart,afill,areps,AV.cells,AV.one,aones,TI.agg,tmArgs,ares,aresl,ares1,reduceIte,reduceCtorEq,Nat.reduceLT,Nat.reduceLeDiff,Nat.reduceEqDiff,Nat.reduceAdd,Nat.reduceSub,Nat.reduceMul,Nat.reduceBEq,Nat.reduceBNe,Nat.reduceBeqDiff,Int.reduceLT,Int.reduceLE,Int.reduceEq,Int.reduceNeg,Int.reduceAdd,Int.reduceSub,Int.reduceMul,Int.reduceToNat,Int.reduceNe,bG,abytes,bT,f_0,f_1,f_2,f_3,f_4,f_15,f_16,f_17,gb3,q1,q2,q3,q1c,q2c,q3c,hgs,Heap.set_set,r1,r2,r3,t1,t2,t3,List.length_set]
    with_reducible refine hnx _ _ ?_; clear hnx nx; refine den_forget fun tmX hTX => ?_; have g := TM.looks hTX [0,1,2,3,4,15,16,17]; simp only [TM.conj,Tr.get_put,Tr.get_leaf,Nat.reduceEqDiff,reduceIte,f_0,f_1,f_2,f_3,f_4,f_15,f_16,f_17] at g; clear f_0 f_1 f_2 f_3 f_4 f_15 f_16 f_17 hTX; obtain ⟨f_0,f_1,f_2,f_3,f_4,f_15,f_16,f_17⟩ := g
    repeat (first | with_reducible first | refine den_seq ?_ | refine den_skip ?_ | refine den_scope ?_ | refine den_block ?_ | refine den_exit ?_ | refine den_blk_nrm ?_ | refine den_blk_ex ?_ | refine den_blk_ret ?_ | refine den_code_ex ?_ | refine den_code_ret ?_ | refine den_rd_ex ?_ | refine den_rd_ret ?_ | refine den_ret ?_ | ((with_reducible refine den_cond true ?_ (fun _ => ?_) (fun h => nomatch h)); focus (simp only [aev,cAV,cAV1,decide_true,decide_false,f_17,wk]; done)) | ((with_reducible refine den_cond false ?_ (fun h => nomatch h) (fun _ => ?_)); focus (simp only [aev,cAV,cAV1,decide_true,decide_false,f_17,wk]; done)) | ((with_reducible refine den_region fun nx hnx => ?_); simp only [List.toList_toArray,bB,aappend,anew,↓awp,↓aops,↓aop,↓aopV,aval,amake,astore,aload,↓aput,aev,aevs,aparts,cAV,cAV1,cAVs,gval,↓xthen,↓xblock,abinop,aeqA,aeqV,aeqFs,aeqIs,aints,abin,astr,aoth,aeq1,isEq,eqTy,aun,aconv,aint,aslice,afield,aidx,aindex,amin,apart,afill,areps,AV.cells,AV.one,aones,TI.agg,tmArgs,ares,aresl,ares1,reduceIte,reduceCtorEq,Nat.reduceLT,Nat.reduceLeDiff,Nat.reduceEqDiff,Nat.reduceAdd,Nat.reduceSub,Nat.reduceMul,Nat.reduceBEq,Nat.reduceBNe,Nat.reduceBeqDiff,Int.reduceLT,Int.reduceLE,Int.reduceEq,Int.reduceNeg,Int.reduceAdd,Int.reduceSub,Int.reduceMul,Int.reduceToNat,Int.reduceNe,bG,abytes,bT,f_0,f_1,f_2,f_3,f_4,f_15,f_16,f_17,wk]; with_reducible refine hnx _ _ ?_; clear hnx nx; refine den_forget fun tmX hTX => ?_; have g := TM.looks hTX [0,1,2,3,4,15,16,17]; simp only [TM.conj,Tr.get_put,Tr.get_leaf,Nat.reduceEqDiff,reduceIte,f_0,f_1,f_2,f_3,f_4,f_15,f_16,f_17] at g; clear f_0 f_1 f_2 f_3 f_4 f_15 f_16 f_17 hTX; obtain ⟨f_0,f_1,f_2,f_3,f_4,f_15,f_16,f_17⟩ := g))
    refine den_rd ⟨_, by omega, k + 1, _, kd', by omega, rfl, f_16, hC', ?_⟩
    have hu3 := ((hu6.mono hs1).mono hs2).mono hs3
    obtain ⟨y1, y2 | ⟨b', o', c', B', y2, y3, y4⟩⟩ := hu3
    · exact ⟨y1, .inl y2⟩
    · exact ⟨y1, .inr ⟨b', o', c', B', y2, by rw [Heap.get_set_ne _ _ (fun e => (hne6 _ _ _ _ y2).1 e.symm)]; exact y3, y4⟩⟩
  · have d1 : ((k : Int) < (xs.length : Int)) = False := eq_false (by omega)
    have hkk : k = xs.length := by omega
    subst hkk
    obtain ⟨z, g1, hz⟩ := hC.g1
    have hl : H.next + 1 < K.next := Heap.lt_of_get g1
    have hz' : List.drop 12 z = [] := List.drop_of_length_le (by omega)
    repeat (first | with_reducible first | refine den_seq ?_ | refine den_skip ?_ | refine den_scope ?_ | refine den_block ?_ | refine den_exit ?_ | refine den_blk_nrm ?_ | refine den_blk_ex ?_ | refine den_blk_ret ?_ | refine den_code_ex ?_ | refine den_code_ret ?_ | refine den_rd_ex ?_ | refine den_rd_ret ?_ | refine den_ret ?_ | ((with_reducible refine den_cond true ?_ (fun _ => ?_) (fun h => nomatch h)); focus (simp only [aev,cAV,cAV1,decide_true,decide_false,f_17,d1,g0,g1,hz,hl,hz',q6]; done)) | ((with_reducible refine den_cond false ?_ (fun h => nomatch h) (fun _ => ?_)); focus (simp only [aev,cAV,cAV1,decide_true,decide_false,f_17,d1,g0,g1,hz,hl,hz',q6]; done)) | ((with_reducible refine den_region fun nx hnx => ?_); simp only [List.toList_toArray,bB,aappend,anew,↓awp,↓aops,↓aop,↓aopV,aval,amake,astore,aload,↓aput,aev,aevs,aparts,cAV,cAV1,cAVs,gval,↓xthen,↓xblock,abinop,aeqA,aeqV,aeqFs,aeqIs,aints,abin,astr,aoth,aeq1,isEq,eqTy,aun,aconv,aint,aslice,afield,aidx,aindex,amin,apart,afill,areps,AV.cells,AV.one,aones,TI.agg,tmArgs,ares,aresl,ares1,reduceIte,reduceCtorEq,Nat.reduceLT,Nat.reduceLeDiff,Nat.reduceEqDiff,Nat.reduceAdd,Nat.reduceSub,Nat.reduceMul,Nat.reduceBEq,Nat.reduceBNe,Nat.reduceBeqDiff,Int.reduceLT,Int.reduceLE,Int.reduceEq,Int.reduceNeg,Int.reduceAdd,Int.reduceSub,Int.reduceMul,Int.reduceToNat,Int.reduceNe,bG,abytes,bT,f_0,f_1,f_2,f_3,f_4,f_15,f_16,f_17,d1,g0,g1,hz,hl,hz',q6]; with_reducible refine hnx _ _ ?_; clear hnx nx; refine den_forget fun tmX hTX => ?_; have g := TM.looks hTX [0,1,2,3,4,15,16,17]; simp only [TM.conj,Tr.get_put,Tr.get_leaf,Nat.reduceEqDiff,reduceIte,f_0,f_1,f_2,f_3,f_4,f_15,f_16,f_17] at g; clear f_0 f_1 f_2 f_3 f_4 f_15 f_16 f_17 hTX; obtain ⟨f_0,f_1,f_2,f_3,f_4,f_15,f_16,f_17⟩ := g))
    have hsame : ∀ (c : Nat) (B : Blk) (x : Blk), c ≠ H.next + 1 → K.get c = some B → (K.set (H.next + 1) x).get c = some B := fun c B x hc hB => by
      rw [Heap.get_set_ne _ _ (fun e => hc e.symm)]; exact hB
    refine hq2 _ _ ⟨.ag [.b big, .b wide, .i .u8 m2, .i .u8 m3, .s pd, .i .u64 m4, .i .u64 m5, .i .u64 m6, .i .u64 m7, .i .u64 m8, .sl bs 0 xs.length cap, u6], ?_, ?_, bs, cap, u6, els1, kd, rfl, ?_, ?_⟩
    · simp only [ares, aresl, ares1, f_2, aload, ty44, TI.agg, Heap.get_set_self _ hl, List.length_cons, List.length_nil, Nat.reduceAdd, Nat.reduceLeDiff, if_true, List.drop_zero, List.take_succ_cons, List.take_zero]
    · exact fun c B hc => hsame c B _ (by have := Heap.lt_of_get hc; omega) (hC.sub _ _ hc)
    · refine ⟨fun c B hc => hsame c B _ (by have := Heap.lt_of_get hc; omega) (hC.sub _ _ hc), hsame _ _ _ (by omega) hC.g0, ⟨_, Heap.get_set_self _ hl, rfl⟩, hsame _ _ _ (by have := hC.lo; omega) hC.gb, hC.lo, hC.len, hC.hd, ?_⟩
      exact hC.ty.mono fun b B hb1 hb2 hB => hsame b B _ (by omega) hB
    · obtain ⟨y1, y2 | ⟨b', o', c', B', y2, y3, y4⟩⟩ := hu6
      · exact ⟨y1, .inl y2⟩
      · exact ⟨y1, .inr ⟨b', o', c', B', y2, hsame _ _ _ (hne6 _ _ _ _ y2).2 y3, y4⟩⟩
end Go.Proofs.YtnladombaepkkaaGreatDoor
