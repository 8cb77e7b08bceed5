/- The abstract machine's operations are the model's: slices made, stores, appends. Conditions: none. -/
import Derived.Test.YtnladombaepkkaaGreatDoorAbs10
set_option linter.all false
namespace Go.Abs
open Go
section
variable {P : Program} {C : Cfg} {r : Ren} {H : Heap} {w : World}

theorem zeros_of {z : Value} {n size : Nat} (hz : z.cells.toList.length = size) : (Array.range (n * size)).map (fun i => z.cells[i % z.cells.size]!) = (List.replicate n z.cells.toList).flatten.toArray := by
  have := zeros_list z.cells.toList n
  rw [hz] at this
  apply Array.toList_inj.1
  rw [← this]

theorem buildSlice_ok (hC : COK P C) {t e : TypeId} {ti ei : TI} (ht : C.T t = some ti) (hk : ti.k = .slice e) (he : C.T e = some ei) (hz : ei.zero.length = ei.size)
    {len : Nat} (hl : len * ei.size ≤ 16777216) {ps : List (Nat × AV)} {qs : Array (Nat × Value)} (k1 : qs.toList.map (·.1) = ps.map (·.1)) (k2 : VRL r (ps.map (·.2)) (qs.toList.map (·.2)))
    {l : List AV} (h : afill (fun j => some (j * ei.size, ei.size)) (areps len ei.zero) ps = some l)
    (kk : Nat) : Makes P r w (Instr.buildSlice t len qs) (.sl kk 0 len (.kn len)) ⟨l, true⟩ := by
  obtain ⟨d, hd, hkk⟩ := desc_of hC ht
  rw [hk] at hkk; simp only [KOK] at hkk; subst hkk
  obtain ⟨z, hzr, hzv⟩ := zero_ok (P := P) (r := r) (w := w) hC he
  have ts := run_size (P := P) (w := w) (hC.T e ei he)
  have hzl : z.cells.toList.length = ei.size := by rw [hzv.length, hz]
  obtain ⟨y, hy1, hy2⟩ := afill_ok (r := r) k1 k2 (areps_ok hzv len) h
  have h1 := new_run (P := P) w y e
  refine ⟨w.drawn, y, [], e, (0, 0), .slice (some ⟨w.heap.size, 0, none⟩) len len, ?_, hy2, rfl, ⟨Nat.le_refl _, fun j _ => by simp⟩, fun r' b hb => ?_⟩
  · unfold Instr.buildSlice
    have hnb : ¬ (2 ^ 24 < len * ei.size) := by omega
    simp only [Sem.run_bind, run_under hd, ts, Result.andThen_ok, gt_iff_lt, hnb, if_false, Sem.run_pure]
    by_cases h0 : len * ei.size = 0
    · have hy0 : y = [] ∨ True := .inr trivial
      simp only [h0, if_true, Sem.run_pure, Result.andThen_ok]
      have e0 : (List.replicate len z.cells.toList).flatten = [] := by
        have : (List.replicate len z.cells.toList).flatten.length = 0 := by simp [hzl]; simpa using h0
        exact List.length_eq_zero_iff.1 this
      rw [e0] at hy1
      have e1 : ((Array.range 0).map fun i => (#[] : Array Value)[i % (#[] : Array Value).size]!) = ([] : List Value).toArray := by simp
      simp only [Sem.run_bind, Sem.run_pure, Result.andThen_ok]
      rw [e1, hy1]
      simp only [Sem.run_bind, h1, Result.andThen_ok, Sem.run_pure]
    · simp only [h0, if_false, Sem.run_bind, hzr, Result.andThen_ok, Sem.run_pure]
      rw [zeros_of hzl, hy1]
      simp only [Sem.run_bind, h1, Result.andThen_ok, Sem.run_pure]
  · simp only [AV.rebase, VR]; exact ⟨_, _, _, hb, rfl, rfl⟩

theorem wrap64_of {c : Int} (h0 : 0 ≤ c) (h1 : c ≤ 140737488355328) : IntKind.i64.wrap c = c := by
  exact IntWalk.i64_in _ (by omega)

theorem makeSlice_ok (hC : COK P C) {t e : TypeId} {ti ei : TI} (ht : C.T t = some ti) (hk : ti.k = .slice e) (he : C.T e = some ei) (hz : ei.zero.length = ei.size)
    {k k' : IntKind} {l c : Int} (h0 : 0 ≤ l) (h1 : l ≤ c) (h2 : c ≤ bigCells) (h3 : ei.bytes * c ≤ bigCells)
    (kk : Nat) : Makes P r w (Instr.makeSlice t (.int k l) (.int k' c)) (.sl kk 0 l.toNat (.kn c.toNat)) ⟨areps c.toNat ei.zero, true⟩ := by
  obtain ⟨d, hd, hkk⟩ := desc_of hC ht
  rw [hk] at hkk; simp only [KOK] at hkk; subst hkk
  obtain ⟨z, hzr, hzv⟩ := zero_ok (P := P) (r := r) (w := w) hC he
  have ts := run_size (P := P) (w := w) (hC.T e ei he)
  obtain ⟨ix, hix, hix1, hix2, _⟩ := (hC.T e ei he).info
  have hzl : z.cells.toList.length = ei.size := by rw [hzv.length, hz]
  unfold bigCells at h2 h3
  have q1 := new_run (P := P) w (List.replicate c.toNat z.cells.toList).flatten e
  refine ⟨w.drawn, (List.replicate c.toNat z.cells.toList).flatten, [], e, (0, 0), .slice (some ⟨w.heap.size, 0, none⟩) l.toNat c.toNat, ?_, areps_ok hzv c.toNat, rfl, ⟨Nat.le_refl _, fun j _ => by simp⟩, fun r' b hb => ?_⟩
  · unfold Instr.makeSlice
    have w1 : IntKind.i64.wrap l = l := wrap64_of h0 (by omega)
    have w2 : IntKind.i64.wrap c = c := wrap64_of (by omega) (by omega)
    have n1 : ¬ c < 0 := by omega
    have n2 : ¬ (2 ^ 48 : Int) < (ei.bytes : Int) * c := by omega
    have n3 : ¬ l < 0 := by omega
    have n4 : ¬ c < l := by omega
    have big : (decide (c < 0) || decide ((ei.bytes : Int) * c > 2 ^ 48) || decide (l < 0) || decide (l > c)) = false := by
      simp only [gt_iff_lt, n1, n2, n3, n4, decide_false, Bool.or_self]
    simp only [Sem.run_bind, run_under hd, ts, Result.andThen_ok, Sem.run_pure, asInt, asIntOf, run_info hix, hix2, w1, w2, big, Bool.false_eq_true, if_false, run_askRoom]
    by_cases hn : c.toNat * ei.size = 0
    · simp only [hn, if_true, Sem.run_pure, Result.andThen_ok]
      have e0 : (List.replicate c.toNat z.cells.toList).flatten = [] := by
        have : (List.replicate c.toNat z.cells.toList).flatten.length = 0 := by simp [hzl]; simpa using hn
        exact List.length_eq_zero_iff.1 this
      rw [e0] at q1 ⊢
      have e1 : ((Array.range 0).map fun i => (#[] : Array Value)[i % (#[] : Array Value).size]!) = ([] : List Value).toArray := by simp
      simp only [Sem.run_bind, Sem.run_pure, Result.andThen_ok]
      rw [e1]
      simp only [q1, Result.andThen_ok, Sem.run_pure]
    · simp only [hn, if_false, Sem.run_bind, hzr, Result.andThen_ok, Sem.run_pure]
      rw [zeros_of hzl]
      simp only [q1, Result.andThen_ok, Sem.run_pure]
  · simp only [AV.rebase, VR]; exact ⟨_, _, _, hb, rfl, rfl⟩

theorem store_ok (hC : COK P C) (s : Sim P r H w) {t : TypeId} {a x : AV} {u v : Value} (hu : VR r a u) (hv : VR r x v) {H' : Heap} (h : astore C H t a x = some H') :
    ∃ w', (Instr.storeAt t u v).run P w = .ok () w' ∧ Sim P r H' w' ∧ Ext r H w r H' w' := by
  unfold astore at h
  split at h
  · rename_i i b o hi
    split at h
    · rename_i B hb
      split at h
      · rename_i hc
        obtain ⟨hw, hlen, hfit, hones⟩ := hc
        cases h
        have ts := run_size (P := P) (w := w) (hC.T t i hi)
        simp only [VR] at hu
        obtain ⟨c, e, hr, rfl⟩ := hu
        obtain ⟨cells, el, fz, g1, g2, g3, y, z, rfl, g4⟩ := s.blk b B c e hb hr
        have hcv := hv.cells
        have hvl := hcv.length
        have hyl := g4.length
        have hfz0 := g3.resolve_right (by simp [hw])
        have hfz := hfz0.2
        obtain ⟨w', e1, e2, e3, e4, e5, e6, e7⟩ := storeCells_ok (P := P) c o el fz v.cells.toList 0 (y ++ z) w g1 (by simp at hvl ⊢; omega) (aones_ok hcv hones) hfz
        have hB : BR r ⟨B.cells.take o ++ x.cells ++ B.cells.drop (o + i.size), true⟩ c e w' := by
          refine ⟨_, el, fz, e2, ?_, (.inl ⟨hfz0.1, fun j hj => hfz j (by simp at hj hvl ⊢; omega)⟩), y.take o ++ v.cells.toList ++ y.drop (o + i.size), z, ?_, ((g4.take o).append hcv).append (g4.drop _)⟩
          · simp at hvl g2 ⊢; omega
          · simp only [Nat.add_zero, hvl, hlen]
            rw [List.take_append_of_le_length (by omega), List.drop_append_of_le_length (by omega)]
            simp
        obtain ⟨s', x'⟩ := s.write hb hw hr e3 e4 hB e5 e6 e7
        refine ⟨w', ?_, s', x'⟩
        have hsz : v.cells.size = i.size := by simp at hvl; omega
        simp only [Instr.storeAt, Instr.sureAddr, Sem.run_bind, Sem.run_pure, Result.andThen_ok, storeVar, ts, hsz, ne_eq, not_true_eq_false, if_false, e1]
      · cases h
    · cases h
  · cases h

theorem bytes_VRL (l : List UInt8) : VRL r (l.map fun c => AV.i .u8 c.toNat) (l.map fun c => Value.int .u8 c.toNat) := by
  induction l with
  | nil => simp [VRL]
  | cons c l ih => simp only [List.map_cons, VRL]; exact ⟨_, _, rfl, VR.int _ _, ih⟩

theorem freeze_new (w : World) (cells : Array Value) (el : TypeId) : (w.alloc (.cells cells el)).freeze ⟨w.heap.size, cells.size, none⟩ 1 = w.alloc (.cells cells el (cells.size, cells.size + 1)) := by
  simp only [World.freeze, World.alloc]
  simp only [Nat.one_ne_zero, if_false]
  congr 1
  apply Array.ext_getElem?
  intro i
  rw [Array.getElem?_modify]
  by_cases h : w.heap.size = i
  · subst h; simp
  · rw [if_neg h]
    simp only [Array.getElem?_push]
    rw [if_neg (fun e => h e.symm), if_neg (fun e => h e.symm)]

theorem strbytes_ok (hC : COK P C) {src dst e : TypeId} {si di ei : TI} (hs : C.T src = some si) (hsk : si.k = .string) (hd : C.T dst = some di) (hdk : di.k = .slice e)
    (he : C.T e = some ei) (hek : ei.k = .int .u8) (l : List UInt8)
    (kk : Nat) : Makes P r w (convert src dst (.string ⟨l.toArray⟩)) (.sl kk 0 l.length (.op 1)) ⟨l.map fun c => .i .u8 c.toNat, true⟩ := by
  obtain ⟨d1, hd1, hk1⟩ := desc_of hC hs
  obtain ⟨d2, hd2, hk2⟩ := desc_of hC hd
  obtain ⟨d3, hd3, hk3⟩ := desc_of hC he
  rw [hsk] at hk1; rw [hdk] at hk2; rw [hek] at hk3; simp only [KOK] at hk1 hk2 hk3; subst hk1 hk2 hk3
  let q : Question := .appendCap l.length 0 e
  let cap := q.cut (w.tape w.drawn q)
  have hcap : l.length ≤ cap := by simp only [cap, q, Question.cut]; omega
  let x : List Value := (l.map fun c => Value.int .u8 c.toNat) ++ List.replicate (cap - l.length) (.int .u8 0)
  have hxl : x.length = cap := by simp [x]; omega
  refine ⟨w.drawn + 1, l.map fun c => Value.int .u8 c.toNat, List.replicate (cap - l.length) (.int .u8 0), e, (x.length, x.length + 1), .slice (some ⟨w.heap.size, 0, none⟩) l.length cap, ?_, bytes_VRL l, rfl, ⟨Nat.le_succ _, fun j hj => ?_⟩, fun r' b hb => ?_⟩
  · simp only [convert, Sem.run_bind, run_under hd1, run_under hd2, run_under hd3, Result.andThen_ok, Conv.stringToBytes, ByteArray.size, List.size_toArray, run_choose]
    have hnf : q.forced = false := rfl
    simp only [show (Question.appendCap l.length 0 e).forced = false from rfl, Bool.false_eq_true, if_false, Result.andThen_ok]
    have hcells : (l.toArray.map fun b => Value.int .u8 (b.toNat : Int)) ++ Array.replicate (cap - l.length) (.int .u8 0) = x.toArray := by
      simp [x]
    have hc2 : (Question.appendCap l.length 0 e).cut (w.tape w.drawn (.appendCap l.length 0 e)) = cap := rfl
    simp only [hc2, hcells, newRow, Sem.run_bind, run_newObj, Result.andThen_ok, Sem.run_pure, markStringish, run_shape]
    have hsh : (World.alloc { w with drawn := w.drawn + 1 } (.cells x.toArray e)).shape? w.heap.size = some (e, x.length) := by
      simp only [World.shape?, World.alloc]; simp
    have hfr := freeze_new { w with drawn := w.drawn + 1 } x.toArray e
    simp only [List.size_toArray] at hfr
    simp only [World.alloc] at hsh hfr ⊢
    simp only [hsh, run_freeze, hfr, Result.andThen_ok, Sem.run_pure]
    rfl
  · have : j < x.length := hj
    simp; omega
  · simp only [AV.rebase, VR]
    exact ⟨_, _, cap, hb, rfl, hcap, by change 0 + cap * 1 ≤ x.length; omega⟩
end
end Go.Abs
