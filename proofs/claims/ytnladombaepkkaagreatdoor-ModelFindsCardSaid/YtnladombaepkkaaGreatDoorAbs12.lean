/- The abstract machine's operations are the model's: append. Conditions: none. -/
import Derived.Test.YtnladombaepkkaaGreatDoorAbs11
set_option linter.all false
namespace Go.Abs
open Go
section
variable {P : Program} {C : Cfg} {r : Ren} {H : Heap} {w : World}

theorem anew_ok (hC : COK P C) (s : Sim P r H w) {u : TypeId} {size n : Nat} {x : AV} {v : Value} (hv : VR r x v) {new : List AV} (h : anew C H u size x = some (n, new)) :
    (Builtin.lenOf v).run P w = .ok n w ∧ (∃ y : List Value, VRL r new y ∧ y.length = n * size ∧ (Builtin.firstCells size n v).run P w = .ok y.toArray w) ∧
    ((∃ e, P.underlying u = some (.slice e)) ∨ P.underlying u = some .string) := by
  unfold anew at h
  split at h
  · rename_i hT
    obtain ⟨d, hd, hk⟩ := desc_of hC hT
    simp only [KOK] at hk; subst hk
    simp only [VR] at hv; subst hv; cases h
    exact ⟨rfl, ⟨[], by simp [VRL], by simp, rfl⟩, .inl ⟨_, hd⟩⟩
  · rename_i hT
    obtain ⟨d, hd, hk⟩ := desc_of hC hT
    simp only [KOK] at hk; subst hk
    simp only [VR] at hv; obtain ⟨a, k, rfl⟩ := hv; cases h
    exact ⟨rfl, ⟨[], by simp [VRL], by simp, by simp [Builtin.firstCells, loadCells, loadCellsFrom]⟩, .inl ⟨_, hd⟩⟩
  · rename_i b o m cap hT
    obtain ⟨d, hd, hk⟩ := desc_of hC hT
    simp only [KOK] at hk; subst hk
    simp only [VR] at hv; obtain ⟨c, e, k, hr, rfl, _⟩ := hv
    split at h
    · rename_i B hb
      split at h
      · rename_i hfit
        cases h
        obtain ⟨y, hy1, hy2⟩ := run_loadCells_at (P := P) (s.blk _ _ c e hb hr) hfit
        refine ⟨rfl, ⟨y, hy1, ?_, hy2⟩, .inl ⟨_, hd⟩⟩
        rw [hy1.length]; simp; omega
      · cases h
    · cases h
  · rename_i l hT
    obtain ⟨d, hd, hk⟩ := desc_of hC hT
    simp only [KOK] at hk; subst hk
    simp only [VR] at hv; subst hv
    simp only [Bool.cond_eq_ite] at h
    split at h
    · rename_i hs
      have hs1 : size = 1 := by simpa using hs
      cases h
      refine ⟨rfl, ⟨_, bytes_VRL l, by simp [hs1], ?_⟩, .inr hd⟩
      simp only [Builtin.firstCells, Sem.run_pure, extract_list]
      simp
    · cases h
  · cases h

theorem append_room (hC : COK P C) {t u e ty : TypeId} {ei : TI} (hdt : P.underlying t = some (.slice e)) (he : C.T e = some ei)
    (hdu : (∃ e, P.underlying u = some (.slice e)) ∨ P.underlying u = some .string) {base : Option Addr} {sLen sCap n : Nat} {v : Value} (hlen : (Builtin.lenOf v).run P w = .ok n w)
    {y : List Value} (hy : (Builtin.firstCells ei.size n v).run P w = .ok y.toArray w) (hroom : sLen + n ≤ sCap) {w' : World}
    (hst : ∀ a, base = some a → (storeCells (a.add (sLen * ei.size)) y).run P w = .ok () w') (hst0 : base = none → w' = w) :
    (Builtin.append_ #[t, u] ty #[.slice base sLen sCap, v]).run P w = .ok (.slice base (sLen + n) sCap) w' := by
  have ts := run_size (P := P) (w := w) (hC.T e ei he)
  unfold Builtin.append_
  rcases hdu with ⟨e', hdu⟩ | hdu
  all_goals
    simp only [List.getElem?_toArray, List.getElem?_cons_zero, List.getElem?_cons_succ, Sem.run_bind, run_under hdt, Result.andThen_ok, ts, run_under hdu, Sem.run_pure,
      Bool.false_eq_true, if_false, hlen, hroom, if_true, Bool.not_false, hy]
    cases base with
    | none => simp only [hst0 rfl, Sem.run_pure]
    | some a => simp only [hst a rfl, Sem.run_bind, Result.andThen_ok, Sem.run_pure]

theorem append_grow (hC : COK P C) {t u e ty : TypeId} {ei : TI} (hdt : P.underlying t = some (.slice e)) (he : C.T e = some ei) {z : Value} (hz : ∀ w, (zeroValue e).run P w = .ok z w)
    (hdu : (∃ e, P.underlying u = some (.slice e)) ∨ P.underlying u = some .string) {base : Option Addr} {sLen sCap n : Nat} {v : Value} (hlen : (Builtin.lenOf v).run P w = .ok n w)
    {x y : List Value} (hx : (Builtin.firstCells ei.size sLen (.slice base sLen sCap)).run P { w with drawn := w.drawn + 1 } = .ok x.toArray { w with drawn := w.drawn + 1 })
    (hy : (Builtin.firstCells ei.size n v).run P { w with drawn := w.drawn + 1 } = .ok y.toArray { w with drawn := w.drawn + 1 })
    (hroom : sCap < sLen + n) (h1 : sLen + n ≤ bigCells) (h2 : (sLen + n) * ei.bytes ≤ bigCells) :
    ∃ cap, sLen + n ≤ cap ∧ (Builtin.append_ #[t, u] ty #[.slice base sLen sCap, v]).run P w =
      .ok (.slice (some ⟨w.heap.size, 0, none⟩) (sLen + n) cap) (World.alloc { w with drawn := w.drawn + 1 } (.cells (x ++ y ++ (Builtin.zeroCells z.cells (cap - (sLen + n))).toList).toArray e)) := by
  have ts := run_size (P := P) (w := w) (hC.T e ei he)
  obtain ⟨ix, hix, hix1, hix2, _⟩ := (hC.T e ei he).info
  unfold bigCells at h1 h2
  have n1 : ¬ (sLen + n ≤ sCap) := by omega
  have n2 : ¬ ((((sLen + n : Nat) : Int) > IntKind.i64.max) ∧ ((False) ∨ ix.bytes = 0)) := by
    intro h; have : IntKind.i64.max = 9223372036854775807 := rfl; omega
  have n3 : ¬ (Builtin.nextslicecap (sLen + n) sCap * ix.bytes > 2 ^ 48) := by
    have := growslice_fits (bytes := ix.bytes) hroom (by rw [hix2]; exact h2)
    omega
  refine ⟨(Question.appendCap (sLen + n) sCap e).cut (w.tape w.drawn (.appendCap (sLen + n) sCap e)), by simp only [Question.cut]; omega, ?_⟩
  unfold Builtin.append_
  rcases hdu with ⟨e', hdu⟩ | hdu
  all_goals
    simp only [List.getElem?_toArray, List.getElem?_cons_zero, List.getElem?_cons_succ, Sem.run_bind, run_under hdt, Result.andThen_ok, ts, run_under hdu, Sem.run_pure,
      Bool.false_eq_true, if_false, hlen, n1, Bool.not_false, if_true, run_info hix, n2, n3, run_choose, show (Question.appendCap (sLen + n) sCap e).forced = false from rfl, run_askRoom, hx, hy, hz]
    simp only [newRow, Sem.run_bind, run_newObj, Result.andThen_ok, Sem.run_pure, World.alloc]
    congr 4
    apply Array.toList_inj.1
    simp

theorem zeroCells_length (z : Array Value) (n : Nat) : (Builtin.zeroCells z n).toList.length = n * z.size := by
  simp [Builtin.zeroCells]

theorem append_ok (hC : COK P C) (s : Sim P r H w) {t u ty : TypeId} {a x v : AV} {p q : Value} (hp : VR r a p) (hq : VR r x q) {H' : Heap} (h : aappend C H t u a x = some (v, H')) :
    Gives P r H w (Builtin.append_ #[t, u] ty #[p, q]) v H' := by
  unfold aappend at h
  split at h
  · rename_i e _ _ _ hT
    obtain ⟨d, hdt, hk⟩ := desc_of hC hT
    simp only [KOK] at hk; subst hk
    split at h
    · cases h
    · rename_i ei he
      split at h
      · cases h
      · rename_i n new hnew
        split at h
        · rename_i hzs
          obtain ⟨hzs, hones⟩ := hzs
          have hz : ∃ z, (∀ w, (zeroValue e).run P w = .ok z w) ∧ z.cells.size = ei.size := by
            obtain ⟨ix, hx, _, _, z, hz, hv⟩ := (hC.T e ei he).info
            exact ⟨z, fun w => by simp [zeroValue, run_info hx, hz], by have := hv.length; simp at this; omega⟩
          obtain ⟨z, hz, hzl⟩ := hz
          obtain ⟨hlen, ⟨y, hy1, hy2, hy3⟩, hdu⟩ := anew_ok (P := P) hC s hq hnew
          have sd := s.drew (w.drawn + 1)
          obtain ⟨_, ⟨y', hy1', hy2', hy3'⟩, _⟩ := anew_ok (P := P) hC sd hq hnew
          split at h
          · -- nil
            simp only [VR] at hp; subst hp
            split at h
            · rename_i hn
              subst hn; cases h
              have := append_room (P := P) (w := w) (ty := ty) (sLen := 0) (sCap := 0) (base := none) hC hdt he hdu hlen hy3 (Nat.le_refl _) (w' := w) (fun a h => by cases h) (fun _ => rfl)
              exact ⟨_, _, r, this, by simp only [VR], s, Ext.refl _ _ _⟩
            · split at h
              · rename_i hn0 hb
                cases h
                have hx0 : (Builtin.firstCells ei.size 0 (.slice none 0 0)).run P { w with drawn := w.drawn + 1 } = .ok ([] : List Value).toArray { w with drawn := w.drawn + 1 } := rfl
                obtain ⟨cap, hcap, hrun⟩ := append_grow (P := P) (w := w) (ty := ty) hC hdt he hz hdu hlen hx0 hy3' (by omega) (by omega) (by simpa using hb.2)
                obtain ⟨s', e'⟩ := sd.alloc ⟨new, true⟩ ([] ++ y' ++ (Builtin.zeroCells z.cells (cap - (0 + n))).toList) e (0, 0) (.inl ⟨Nat.le_refl _, fun j _ => by simp⟩) ⟨y', (Builtin.zeroCells z.cells (cap - (0 + n))).toList, rfl, hy1'⟩
                refine ⟨_, _, _, hrun, ?_, s', (Ext.drew r H w (w.drawn + 1)).trans e'⟩
                simp only [VR]
                refine ⟨_, _, cap, upd_self _ _ _, by simp, by omega, ?_⟩
                simp only [List.length_append, zeroCells_length, hy2', hzl, List.length_nil]
                have : cap = n + (cap - (0 + n)) := by omega
                rw [Nat.zero_add, Nat.zero_add, ← Nat.add_mul, ← (by omega : cap = n + (cap - (0 + n)))]
                exact Nat.le_refl _
              · cases h
          · rename_i b o len cap
            simp only [VR] at hp
            obtain ⟨c, ext, k, hr, rfl, hcap⟩ := hp
            split at h
            · cases h
            · rename_i B hb
              have grow : k < len + n → len + n ≤ bigCells → (len + n) * ei.bytes ≤ bigCells → o + len * ei.size ≤ B.cells.length →
                  Gives P r H w (Builtin.append_ #[t, u] ty #[.slice (some ⟨c, o, none⟩) len k, q]) (.sl H.next 0 (len + n) (.op ei.size)) (H.alloc ⟨(B.cells.drop o).take (len * ei.size) ++ new, true⟩) := by
                intro g1 g2 g3 g4
                obtain ⟨xo, hxo, hxr⟩ := run_loadCells_at (P := P) (sd.blk _ _ c ext hb hr) g4
                obtain ⟨cp, hcp, hrun⟩ := append_grow (P := P) (w := w) (ty := ty) hC hdt he hz hdu hlen (base := some ⟨c, o, none⟩) (sCap := k) (x := xo) (by simpa [Builtin.firstCells] using hxr) hy3' g1 g2 g3
                obtain ⟨s', e'⟩ := sd.alloc ⟨(B.cells.drop o).take (len * ei.size) ++ new, true⟩ (xo ++ y' ++ (Builtin.zeroCells z.cells (cp - (len + n))).toList) e (0, 0) (.inl ⟨Nat.le_refl _, fun j _ => by simp⟩) ⟨xo ++ y', _, rfl, hxo.append hy1'⟩
                refine ⟨_, _, _, hrun, ?_, s', (Ext.drew r H w (w.drawn + 1)).trans e'⟩
                simp only [VR]
                refine ⟨_, _, cp, upd_self _ _ _, rfl, hcp, ?_⟩
                have hxol : xo.length = len * ei.size := by rw [hxo.length]; simp; omega
                simp only [List.length_append, zeroCells_length, hy2', hzl, hxol]
                rw [Nat.zero_add, ← Nat.add_mul, ← Nat.add_mul, ← (by omega : cp = len + n + (cp - (len + n)))]
                exact Nat.le_refl _
              split at h
              · rename_i kk
                simp only at hcap; subst hcap
                split at h
                · rename_i hroom
                  split at h
                  · rename_i hn
                    subst hn; cases h
                    have hy0 : y = [] := List.length_eq_zero_iff.1 (by simpa using hy2)
                    subst hy0
                    have := append_room (P := P) (w := w) (ty := ty) (base := some ⟨c, o, none⟩) hC hdt he hdu hlen hy3 hroom (w' := w) (fun a _ => rfl) (fun h => by cases h)
                    exact ⟨_, _, r, this, by simp only [VR]; exact ⟨c, ext, _, hr, rfl, rfl⟩, s, Ext.refl _ _ _⟩
                  · split at h
                    · rename_i hc
                      obtain ⟨hw, hfit⟩ := hc
                      cases h
                      obtain ⟨cells, el, fz, g1, g2, g3, yy, zz, rfl, g4⟩ := s.blk b B c ext hb hr
                      have hyl := g4.length
                      have hfz0 := g3.resolve_right (by simp [hw])
                      have hfz := hfz0.2
                      rw [Nat.add_mul] at hfit
                      obtain ⟨w', e1, e2, e3, e4, e5, e6, e7⟩ := storeCells_ok (P := P) c (o + len * ei.size) el fz y 0 (yy ++ zz) w g1 (by simp; omega) (aones_ok hy1 hones) hfz
                      have hB : BR r ⟨B.cells.take (o + len * ei.size) ++ new ++ B.cells.drop (o + len * ei.size + n * ei.size), true⟩ c ext w' := by
                        refine ⟨_, el, fz, e2, ?_, (.inl ⟨hfz0.1, fun j hj => hfz j (by simp at hj ⊢; omega)⟩), yy.take (o + len * ei.size) ++ y ++ yy.drop (o + len * ei.size + n * ei.size), zz, ?_, ((g4.take _).append hy1).append (g4.drop _)⟩
                        · simp at g2 ⊢; omega
                        · simp only [Nat.add_zero, hy2]
                          rw [List.take_append_of_le_length (by omega), List.drop_append_of_le_length (by omega)]
                          simp
                      obtain ⟨s', x'⟩ := s.write hb hw hr e3 e4 hB e5 e6 e7
                      have := append_room (P := P) (w := w) (ty := ty) (base := some ⟨c, o, none⟩) hC hdt he hdu hlen hy3 hroom (w' := w') (fun a h => by cases h; rw [addr_add]; exact e1) (fun h => by cases h)
                      exact ⟨_, _, r, this, by simp only [VR]; exact ⟨c, ext, _, hr, rfl, rfl⟩, s', x'⟩
                    · cases h
                · rename_i hroom
                  split at h
                  · rename_i hc
                    cases h
                    exact grow (by omega) hc.1 hc.2.1 hc.2.2
                  · cases h
              · rename_i es
                simp only at hcap
                obtain ⟨hcap1, hcap2⟩ := hcap
                split at h
                · rename_i hc
                  obtain ⟨rfl, rfl, hw, hBl, hb1, hb2⟩ := hc
                  cases h
                  by_cases hroom : len + n ≤ k
                  · obtain ⟨cells, el, fz, g1, g2, g3, yy, zz, rfl, g4⟩ := s.blk b B c ext hb hr
                    have hyl := g4.length
                    have hfz0 := g3.resolve_right (by simp [hw])
                    have hfz := hfz0.2
                    have hkk : (len + n) * ei.size ≤ k * ei.size := Nat.mul_le_mul_right _ hroom
                    rw [Nat.add_mul] at hkk
                    obtain ⟨w', e1, e2, e3, e4, e5, e6, e7⟩ := storeCells_ok (P := P) c (0 + len * ei.size) el fz y 0 (yy ++ zz) w g1 (by simp at g2 ⊢; omega) (aones_ok hy1 hones) hfz
                    have hB : BR r ⟨B.cells ++ new, true⟩ c ext w' := by
                      refine ⟨_, el, fz, e2, ?_, (.inl ⟨hfz0.1, fun j hj => hfz j (by simp at hj g2 ⊢; omega)⟩), yy ++ y, (yy ++ zz).drop (len * ei.size + n * ei.size), ?_, g4.append hy1⟩
                      · simp at g2 ⊢; omega
                      · simp only [Nat.add_zero, Nat.zero_add, hy2]
                        rw [List.take_append_of_le_length (by omega), List.take_of_length_le (by omega)]
                    obtain ⟨s', x'⟩ := s.turn hb hw hr e3 e4 hB e5 e6 e7
                    have := append_room (P := P) (w := w) (ty := ty) (base := some ⟨c, 0, none⟩) hC hdt he hdu hlen hy3 hroom (w' := w') (fun a h => by cases h; rw [addr_add]; exact e1) (fun h => by cases h)
                    refine ⟨_, _, _, this, ?_, s', x'⟩
                    simp only [VR]
                    exact ⟨c, ext, k, upd_self _ _ _, rfl, hroom, hcap2⟩
                  · obtain ⟨cc, ww, rr, q1, q2, q3, q4⟩ := grow (by omega) hb1 hb2 (by omega)
                    have hB : (B.cells.drop 0).take (len * ei.size) = B.cells := by rw [List.drop_zero, ← hBl]; exact List.take_length
                    rw [hB] at q3 q4
                    have hsub : ∀ b' B', (H.turn b ⟨B.cells ++ new, true⟩).get b' = some B' → (H.alloc ⟨B.cells ++ new, true⟩).get b' = some B' := by
                      intro b' B' hg
                      rw [Heap.get_turn] at hg
                      rw [Heap.get_alloc]
                      split at hg
                      · rename_i h1; rw [if_pos h1]; exact hg
                      · rename_i h1
                        rw [if_neg h1]
                        split at hg
                        · cases hg
                        · exact hg
                    exact ⟨cc, ww, rr, q1, q2, q3.weaken rfl hsub, q4.weaken rfl hsub⟩
                · cases h
          · cases h
        · cases h
  · cases h

theorem cast_ok (hC : COK P C) (s : Sim P r H w) {t e : TypeId} {ti ei : TI} (ht : C.T t = some ti) (hk : ti.k = .slice e) (he : C.T e = some ei) (hek : ei.k = .int .u8)
    {b o n : Nat} {c : Cap} {B : Blk} (hb : H.get b = some B) (hw : B.wr = true) {u : Value} (hu : VR r (.sl b o n c) u) : Gives P r H w (convert t t u) (.sl b o n c) H := by
  obtain ⟨d1, hd1, hk1⟩ := desc_of hC ht
  obtain ⟨d3, hd3, hk3⟩ := desc_of hC he
  rw [hk] at hk1; rw [hek] at hk3; simp only [KOK] at hk1 hk3; subst hk1 hk3
  have hu' := hu
  simp only [VR] at hu
  obtain ⟨k, ex, q, hr, rfl, hcap⟩ := hu
  obtain ⟨cells, el, fz, g1, g2, g3, g4⟩ := s.blk b B k ex hb hr
  have hsh : w.shape? k = some (el, cells.length) := by simp [World.shape?, g1]
  have hrun : (convert t t (.slice (some ⟨k, o, none⟩) n q)).run P w = .ok (.slice (some ⟨k, o, none⟩) n q) (w.freeze ⟨k, cells.length, none⟩ 1) := by
    simp only [convert, Sem.run_bind, run_under hd1, run_under hd3, Result.andThen_ok, beq_self_eq_true, markStringish, run_shape, hsh, run_freeze, Sem.run_pure]
  have hsz : (w.freeze ⟨k, cells.length, none⟩ 1).heap.size = w.heap.size := by simp [World.freeze]
  have hoth : ∀ j, j ≠ k → (w.freeze ⟨k, cells.length, none⟩ 1).heap[j]? = w.heap[j]? := by
    intro j hj
    simp only [World.freeze, Nat.one_ne_zero, if_false, Array.getElem?_modify]
    rw [if_neg (fun e => hj e.symm)]
  have hself : ∃ fz', (w.freeze ⟨k, cells.length, none⟩ 1).heap[k]? = some (.cells cells.toArray el fz') ∧ ((fz'.1 ≤ fz'.2 ∧ ∀ j, j < cells.length → (fz'.1 ≤ j && j < fz'.2) = false) ∨ B.wr = false) := by
    refine ⟨if fz.1 == fz.2 then (cells.length, cells.length + 1) else (min fz.1 cells.length, max fz.2 (cells.length + 1)), ?_, ?_⟩
    · simp only [World.freeze, Nat.one_ne_zero, if_false, Array.getElem?_modify, if_true, g1, Option.map_some]
    · rcases g3 with ⟨h1, h2⟩ | h
      · left
        split
        · exact ⟨by simp, fun j hj => by simp; omega⟩
        · rename_i hne
          have hne' : fz.1 ≠ fz.2 := by simpa using hne
          have hlo : cells.length ≤ fz.1 := by
            rcases Nat.lt_or_ge fz.1 cells.length with h | h
            · have := h2 fz.1 h
              simp at this; omega
            · exact h
          refine ⟨by simp; omega, fun j hj => ?_⟩
          simp; omega
      · exact .inr h
  obtain ⟨fz', q1, q2⟩ := hself
  have sim : Sim P r H (w.freeze ⟨k, cells.length, none⟩ 1) := by
    refine ⟨fun b' B' c' e' h1 h2 => ?_, s.inj, fun b' c' e' h => by rw [hsz]; exact s.dom b' c' e' h, s.glb⟩
    by_cases hc : c' = k
    · subst hc
      obtain ⟨cells', el', fz2, p1, p2, p3, p4⟩ := s.blk b' B' c' e' h1 h2
      rw [g1] at p1; cases p1
      by_cases hw' : B'.wr = true
      · have := s.inj b' B' b B c' e' ex h1 hw' hb h2 hr
        subst this
        rw [hb] at h1; cases h1
        refine ⟨_, _, fz', q1, p2, q2, ?_⟩
        obtain ⟨x, y, e1, e2⟩ := p4
        exact ⟨x, y, e1, e2⟩
      · refine ⟨_, _, fz', q1, p2, .inr (by simpa using hw'), ?_⟩
        obtain ⟨x, y, e1, e2⟩ := p4
        exact ⟨x, y, e1, e2⟩
    · exact (s.blk b' B' c' e' h1 h2).mono (fun _ _ h => h) (hoth c' hc)
  refine ⟨_, _, r, hrun, hu', sim, ⟨fun _ _ => rfl, Nat.le_refl _, by rw [hsz]; exact Nat.le_refl _, fun j _ hj => hoth j (fun e => hj ⟨b, B, ex, hb, hw, by rw [e]; exact hr⟩), fun _ _ h => h, ?_, ?_, ?_⟩⟩
  all_goals simp [World.freeze]
end
end Go.Abs
