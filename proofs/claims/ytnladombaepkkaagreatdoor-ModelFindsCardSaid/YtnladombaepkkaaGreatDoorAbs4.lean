/- The abstract machine's operations are the model's: arithmetic, loads, parts, slices. Conditions: none. -/
import Derived.Test.YtnladombaepkkaaGreatDoorAbs3
set_option linter.all false
namespace Go.Abs
open Go
section
variable {P : Program} {C : Cfg} {r : Ren} {H : Heap} {w : World}

theorem VR.int (k : IntKind) (n : Int) : VR r (.i k n) (.int k n) := by simp only [VR]
theorem VR.bool (b : Bool) : VR r (.b b) (.bool b) := by simp only [VR]
theorem VR.str (l : List UInt8) : VR r (.s l) (.string ⟨l.toArray⟩) := by simp only [VR]
theorem BR.cell {B : Blk} {c e : Nat} (h : BR r B c e w) {j : Nat} {v : AV} (hj : B.cells[j]? = some v) : ∃ u, w.cell? ⟨c, j, none⟩ = some u ∧ VR r v u := by
  obtain ⟨cells, el, fz, h1, _, _, x, y, rfl, hv⟩ := h
  obtain ⟨u, h2, h3⟩ := hv.get hj
  refine ⟨u, ?_, h3⟩
  have hl : j < x.length := by
    rcases Nat.lt_or_ge j x.length with h | h
    · exact h
    · rw [List.getElem?_eq_none h] at h2; cases h2
  simp only [World.cell?, h1]
  simp [List.getElem?_append_left hl, h2]

theorem cells_at {B : Blk} {c e : Nat} (h : BR r B c e w) {o n : Nat} (hn : o + n ≤ B.cells.length) :
    ∃ x : List Value, VRL r ((B.cells.drop o).take n) x ∧ x.length = n ∧ ∀ j v, x[j]? = some v → w.cell? ((⟨c, o, none⟩ : Addr).add j) = some v := by
  obtain ⟨cells, el, fz, h1, _, _, x, y, rfl, hv⟩ := h
  have hx := hv.length
  refine ⟨(x.drop o).take n, (hv.drop o).take n, by simp; omega, fun j v hj => ?_⟩
  have hjn : j < n := by
    rcases Nat.lt_or_ge j n with h | h
    · exact h
    · simp [List.getElem?_take, Nat.not_lt.2 h] at hj
  rw [List.getElem?_take_of_lt hjn, List.getElem?_drop] at hj
  have hadd : ((⟨c, o, none⟩ : Addr).add j) = ⟨c, o + j, none⟩ := by
    unfold Addr.add
    by_cases h0 : j = 0
    · simp [h0]
    · simp [h0]
  rw [hadd]
  simp only [World.cell?, h1]
  have hl : o + j < x.length := by omega
  simp [List.getElem?_append_left hl, hj]

theorem run_loadCells_at {B : Blk} {c e : Nat} (h : BR r B c e w) {o n : Nat} (hn : o + n ≤ B.cells.length) :
    ∃ x : List Value, VRL r ((B.cells.drop o).take n) x ∧ (loadCells ⟨c, o, none⟩ n).run P w = .ok x.toArray w := by
  obtain ⟨x, h1, h2, h3⟩ := cells_at h hn
  refine ⟨x, h1, ?_⟩
  have := run_loadCells_list (P := P) w ⟨c, o, none⟩ x h3
  rw [h2] at this
  exact this

theorem aload_ok (hC : COK P C) (s : Sim P r H w) {t : TypeId} {b o : Nat} {v : AV} {u : Value} (hu : VR r (.p b o) u) (h : aload C H t b o = some v) :
    ∃ c, (Instr.loadAt t u).run P w = .ok c w ∧ VR r v c := by
  simp only [VR] at hu
  obtain ⟨c, e, hr, rfl⟩ := hu
  unfold aload at h
  split at h
  · rename_i i B hi hB
    have ti := hC.T t i hi
    have hb := s.blk b B c e hB hr
    simp only [Instr.loadAt, Instr.sureAddr, Sem.run_bind, Sem.run_pure, Result.andThen_ok, loadVar, run_agg ti]
    split at h
    · rename_i ha
      split at h
      · rename_i hn
        cases h
        obtain ⟨x, h1, h2⟩ := run_loadCells_at (P := P) hb hn
        refine ⟨.agg x.toArray, ?_, by simp only [VR]; exact ⟨x, rfl, h1⟩⟩
        simp [ha, run_size ti, h2]
      · cases h
    · rename_i ha
      obtain ⟨x, h1, h2⟩ := hb.cell h
      refine ⟨x, ?_, h2⟩
      simp [ha, h1]
  · cases h

theorem apart_ok (hC : COK P C) {t : TypeId} {cs : List AV} {x : List Value} (hx : VRL r cs x) {off : Nat} {v : AV} (h : apart C t cs off = some v) :
    ∃ c, (part t x.toArray off).run P w = .ok c w ∧ VR r v c := by
  unfold apart at h
  split at h
  · cases h
  · rename_i i hi
    have ti := hC.T t i hi
    simp only [part, Sem.run_bind, run_agg ti, Result.andThen_ok]
    split at h
    · rename_i ha
      cases h
      refine ⟨.agg ((x.drop off).take i.size).toArray, ?_, by simp only [VR]; exact ⟨_, rfl, (hx.drop off).take i.size⟩⟩
      simp [ha, run_size ti]
    · rename_i ha
      obtain ⟨c, h1, h2⟩ := hx.get h
      exact ⟨c, by simp [ha, h1], h2⟩

theorem abin_ok {op : BinOp} {k : IntKind} {a b : Int} {t : TypeId} {v : AV} (hs : op ≠ .shl ∧ op ≠ .shr) (h : abin op k a b = some v) :
    ∃ c, (binOp op t (.int k a) (.int k b)).run P w = .ok c w ∧ VR r v c := by
  cases op <;> simp only [abin] at h
  case quo =>
    split at h
    · cases h
    · rename_i hb; cases h
      exact ⟨_, by simp [binOp, Op.intDiv, hb], VR.int _ _⟩
  case rem =>
    split at h
    · cases h
    · rename_i hb; cases h
      exact ⟨_, by simp [binOp, Op.intDiv, hb], VR.int _ _⟩
  case shl => exact absurd rfl hs.1
  case shr => exact absurd rfl hs.2
  all_goals first
    | (cases h; exact ⟨_, by simp [binOp, Op.intArith, Op.intBits, Op.intCmp], VR.int _ _⟩)
    | (cases h; exact ⟨_, by simp [binOp, Op.intArith, Op.intBits, Op.intCmp], VR.bool _⟩)
    | (cases h)

theorem astr_ok {op : BinOp} {a b : List UInt8} {t : TypeId} {v : AV} (h : astr op a b = some v) :
    ∃ c, (binOp op t (.string ⟨a.toArray⟩) (.string ⟨b.toArray⟩)).run P w = .ok c w ∧ VR r v c := by
  cases op <;> simp only [astr] at h
  case add =>
    split at h
    · rename_i hl; cases h
      refine ⟨.string ⟨(a ++ b).toArray⟩, ?_, by simp only [VR]⟩
      rw [show binOp .add t (.string ⟨a.toArray⟩) (.string ⟨b.toArray⟩) = Op.stringOp .add ⟨a.toArray⟩ ⟨b.toArray⟩ by simp [binOp]]
      rw [run_string_add_sum w _ _ (by simpa [ByteArray.size] using hl), ByteArray.mk_append_mk]
    · cases h
  all_goals first
    | (cases h; exact ⟨_, by simp [binOp, Op.stringOp], VR.bool _⟩)
    | (cases h)

theorem aun_ok {op : UnOp} {x v : AV} {u : Value} (hu : VR r x u) (h : aun op x = some v) : ∃ c, (Op.unary op u).run P w = .ok c w ∧ VR r v c := by
  unfold aun at h
  split at h
  · simp only [VR] at hu; subst hu; cases h; exact ⟨_, by simp [Op.unary], VR.bool _⟩
  · simp only [VR] at hu; subst hu; cases h; exact ⟨_, by simp [Op.unary, Op.intArith], VR.int _ _⟩
  · simp only [VR] at hu; subst hu; cases h; exact ⟨_, by simp [Op.unary, Op.intBits], VR.int _ _⟩
  · cases h

theorem afill_ok {pl : Nat → Option (Nat × Nat)} : ∀ {ps : List (Nat × AV)} {qs : List (Nat × Value)} {cells : List AV} {x : List Value} {l : List AV},
    qs.map (·.1) = ps.map (·.1) → VRL r (ps.map (·.2)) (qs.map (·.2)) → VRL r cells x → afill pl cells ps = some l →
    ∃ y : List Value, Instr.fill pl x.toArray qs = some y.toArray ∧ VRL r l y
  | [], qs, cells, x, l, hk, _, hx, h => by
    cases qs with
    | nil => simp only [afill, Option.some.injEq] at h; subst h; exact ⟨x, rfl, hx⟩
    | cons q qs => simp at hk
  | (i, a) :: ps, qs, cells, x, l, hk, hv, hx, h => by
    cases qs with
    | nil => simp at hk
    | cons q qs =>
      obtain ⟨i', u⟩ := q
      simp only [List.map_cons, List.cons.injEq] at hk
      obtain ⟨hi, hk⟩ := hk
      subst hi
      simp only [List.map_cons, VRL] at hv
      obtain ⟨c, y, hcy, hau, hv⟩ := hv
      simp only [List.cons.injEq] at hcy
      obtain ⟨rfl, rfl⟩ := hcy
      simp only [afill] at h
      cases hp : pl i' with
      | none => rw [hp] at h; cases h
      | some os =>
        obtain ⟨off, size⟩ := os
        rw [hp] at h
        simp only at h
        split at h
        · rename_i hc
          obtain ⟨hc1, hc2⟩ := hc
          have hcs := hau.cells
          have hlen : u.cells.size = a.cells.length := by have := hcs.length; simpa using this
          have hxl := hx.length
          have key : (u.cells.zipIdx.foldl (fun cs (c, j) => cs.setIfInBounds (off + j) c) x.toArray) = (x.take off ++ u.cells.toList ++ x.drop (off + size)).toArray := by
            have gen : ∀ (l : List Value) (k : Nat) (z : List Value), off + k + l.length ≤ z.length →
                (l.zipIdx k).foldl (fun cs (p : Value × Nat) => cs.setIfInBounds (off + p.2) p.1) z.toArray = (z.take (off + k) ++ l ++ z.drop (off + k + l.length)).toArray := by
              intro l
              induction l with
              | nil => intro k z _; simp
              | cons d l ih =>
                intro k z hz
                simp only [List.zipIdx_cons, List.foldl_cons]
                rw [List.setIfInBounds_toArray, ih (k + 1) (z.set (off + k) d) (by simp at hz ⊢; omega)]
                congr 1
                simp only [List.length_cons] at hz ⊢
                apply List.ext_getElem?
                intro n
                simp only [List.getElem?_append, List.length_append, List.length_take, List.length_set, List.getElem?_take, List.getElem?_drop, List.getElem?_set, List.length_cons, List.getElem?_cons]
                grind
            have := gen u.cells.toList 0 x (by simp; omega)
            rw [← Array.foldl_toList]
            simp only [Nat.add_zero] at this
            rw [Array.toList_zipIdx]
            rw [this]
            simp [hlen, hc1]
          obtain ⟨y, hy1, hy2⟩ := afill_ok (qs := qs) (x := x.take off ++ u.cells.toList ++ x.drop (off + size)) hk hv (((hx.take off).append hcs).append (hx.drop _)) h
          refine ⟨y, ?_, hy2⟩
          simp only [Instr.fill, hp]
          rw [if_neg (by simp [hlen, hc1]; omega), key]
          exact hy1
        · cases h
end
end Go.Abs
