/- The abstract machine: '==' of structs and arrays. Conditions: none. -/
import Derived.Test.YtnladombaepkkaaGreatDoorAbs5
import Derived.Laws.StructEq
import Derived.ChangeKeysEq
set_option linter.all false
namespace Go.Abs
open Go
section
variable {P : Program} {C : Cfg} {r : Ren} {H : Heap} {w : World}
theorem aeqFs_ok (hC : COK P C) {n dd : Nat} (F : TypeId → AV → AV → Option Bool)
    (hF : ∀ t a b z u v, F t a b = some z → flatEq P n t = true → VR r a u → VR r b v → (Op.equalIn dd t u v).run P w = .ok z w)
    {xs ys : List Value} {l m : List AV} (hx : VRL r l xs) (hy : VRL r m ys) :
    ∀ (fs : List Field) (g : List (Nat × Nat × TypeId)) (z : Bool), fs.map (fun f => (f.offset, f.type)) = g.map (fun x => (x.1, x.2.2)) → (fs.all fun f => f.name != "_" && flatEq P n f.type) = true →
    aeqFs C F g l m = some z → (Op.eqFields dd xs.toArray ys.toArray fs).run P w = .ok z w
  | [], g, z, h1, h2, h => by
    cases g with
    | nil => cases h; simp [Op.eqFields]
    | cons => simp at h1
  | f :: fs, g, z, h1, h2, h => by
    cases g with
    | nil => simp at h1
    | cons y g =>
      obtain ⟨off, sz, ty⟩ := y
      simp only [List.map_cons, List.cons.injEq, Prod.mk.injEq] at h1
      obtain ⟨⟨rfl, rfl⟩, h1⟩ := h1
      simp only [List.all_cons, Bool.and_eq_true, bne_iff_ne, ne_eq] at h2
      obtain ⟨⟨hn, hfl⟩, h2⟩ := h2
      simp only [aeqFs] at h
      split at h
      · rename_i a b ha hb
        split at h
        · rename_i x y hfx hfy
          cases h
          obtain ⟨u, hu, hau⟩ := apart_ok (P := P) (w := w) hC hx ha
          obtain ⟨v, hv, hbv⟩ := apart_ok (P := P) (w := w) hC hy hb
          have he := hF _ _ _ _ _ _ hfx hfl hau hbv
          have ih := aeqFs_ok hC F hF hx hy fs g y h1 (by simpa using h2) hfy
          simp only [Op.eqFields, ne_eq, hn, not_false_eq_true, if_true, Sem.run_bind, hu, hv, he, Result.andThen_ok]
          cases x
          · simp
          · simpa using ih
        · cases h
      · cases h
theorem aeqIs_ok (hC : COK P C) {dd : Nat} {e : TypeId} {sz : Nat} (F : AV → AV → Option Bool)
    (hF : ∀ a b z u v, F a b = some z → VR r a u → VR r b v → (Op.equalIn dd e u v).run P w = .ok z w)
    {xs ys : List Value} {l m : List AV} (hx : VRL r l xs) (hy : VRL r m ys) :
    ∀ (is : List Nat) (z : Bool), aeqIs C F e sz is l m = some z → (Op.eqItems dd e sz xs.toArray ys.toArray is).run P w = .ok z w
  | [], z, h => by cases h; simp [Op.eqItems]
  | i :: is, z, h => by
    simp only [aeqIs] at h
    split at h
    · rename_i a b ha hb
      split at h
      · rename_i x y hfx hfy
        cases h
        obtain ⟨u, hu, hau⟩ := apart_ok (P := P) (w := w) hC hx ha
        obtain ⟨v, hv, hbv⟩ := apart_ok (P := P) (w := w) hC hy hb
        have he := hF _ _ _ _ _ hfx hau hbv
        have ih := aeqIs_ok hC F hF hx hy is y hfy
        simp only [Op.eqItems, Sem.run_bind, hu, hv, he, Result.andThen_ok]
        cases x
        · simp
        · simpa using ih
      · cases h
    · cases h
theorem aeqV_ok (hC : COK P C) : ∀ (n k : Nat) (t : TypeId) (a b : AV) (z : Bool) (u v : Value), aeqV C n t a b = some z → flatEq P n t = true → VR r a u → VR r b v → (Op.equalIn (n + k) t u v).run P w = .ok z w
  | 0, _, _, _, _, _, _, _, h, _, _, _ => by cases h
  | n + 1, k, t, a, b, z, u, v, h, hf, ha, hb => by
    rw [show n + 1 + k = (n + k) + 1 by omega]
    simp only [aeqV] at h
    simp only [flatEq] at hf
    split at h
    · rename_i fs _ _ _ l m hT
      obtain ⟨d, hd, arr, rfl, h1, _⟩ := (hC.T t _ hT).desc
      rw [hd] at hf
      simp only [Bool.and_eq_true, Bool.not_eq_true'] at hf
      simp only [VR] at ha hb
      obtain ⟨xs, rfl, hx⟩ := ha
      obtain ⟨ys, rfl, hy⟩ := hb
      have hfo : P.fieldsOf t = arr := by simp [Program.fieldsOf, hd]
      rw [run_equalIn_struct w (n + k) t _ _ (by rw [hfo]; exact hd) hf.1, hfo]
      exact aeqFs_ok hC _ (fun t a b z u v h1 h2 h3 h4 => aeqV_ok hC n k t a b z u v h1 h2 h3 h4) hx hy _ _ _ h1 hf.2 h
    · rename_i len e _ _ _ l m hT
      obtain ⟨d, hd, hk⟩ := (hC.T t _ hT).desc
      simp only [KOK] at hk; subst hk
      rw [hd] at hf
      simp only at hf
      split at h
      · rename_i ei hE
        simp only [VR] at ha hb
        obtain ⟨xs, rfl, hx⟩ := ha
        obtain ⟨ys, rfl, hy⟩ := hb
        obtain ⟨x, hx1, hx2, _⟩ := (hC.T e ei hE).info
        have hsz : P.cellsOf e = ei.size := by simp [Program.cellsOf, hx1, hx2]
        rw [run_equalIn_array w (n + k) _ _ hd hx1, hsz]
        exact aeqIs_ok hC _ (fun a b z u v h1 h3 h4 => aeqV_ok hC n k e a b z u v h1 hf h3 h4) hx hy _ _ h
      · cases h
    · rename_i hT
      obtain ⟨d, hd, hk⟩ := (hC.T t _ hT).desc
      simp only [KOK] at hk; subst hk
      simp only [VR] at ha hb; subst ha hb
      split at h
      · rename_i hk; subst hk; cases h
        simp [Op.equalIn, run_under hd]
      · cases h
    · rename_i hT
      obtain ⟨d, hd, hk⟩ := (hC.T t _ hT).desc
      simp only [KOK] at hk; subst hk
      simp only [VR] at ha hb; subst ha hb
      cases h
      simp [Op.equalIn, run_under hd]
    · rename_i hT
      obtain ⟨d, hd, hk⟩ := (hC.T t _ hT).desc
      simp only [KOK] at hk; subst hk
      simp only [VR] at ha hb; subst ha hb
      cases h
      simp only [Op.equalIn, Sem.run_bind, run_under hd, Result.andThen_ok, Sem.run_pure]
      congr 1
      show ((⟨_⟩ : Array UInt8) == ⟨_⟩) = _
      simp
    · cases h
theorem aeqA_ok (hC : COK P C) {op : BinOp} {t : TypeId} {x y : Operand} {l m : List AV} {v : AV} {p q : Value} (ha : VR r (.ag l) p) (hb : VR r (.ag m) q) (h : aeqA C op t l m = some v) :
    ∃ c, (do eqGuard op t x y p q; binOp op t p q : Sem Value).run P w = .ok c w ∧ VR r v c := by
  unfold aeqA at h
  simp only [Bool.cond_eq_ite] at h
  split at h
  · rename_i hE
    obtain ⟨h1, h2⟩ := hC.E t hE
    have key : ∀ z, aeqV C 9 t (.ag l) (.ag m) = some z → (Op.equal t p q).run P w = .ok z w := fun z hz => aeqV_ok (r := r) hC 9 9991 t _ _ z p q hz h1 ha hb
    simp only [VR] at ha hb
    obtain ⟨xs, rfl, hx⟩ := ha
    obtain ⟨ys, rfl, hy⟩ := hb
    have hg : ∀ op, (eqGuard op t x y (.agg xs.toArray) (.agg ys.toArray)).run P w = .ok () w := by
      intro op
      cases op <;> simp [eqGuard, h2]
    split at h
    · cases hz : aeqV C 9 t (.ag l) (.ag m) with
      | none => rw [hz] at h; cases h
      | some z =>
        rw [hz] at h; cases h
        exact ⟨.bool z, by simp only [Sem.run_bind, hg, Result.andThen_ok]; simp [binOp, key z hz], VR.bool z⟩
    · cases hz : aeqV C 9 t (.ag l) (.ag m) with
      | none => rw [hz] at h; cases h
      | some z =>
        rw [hz] at h; cases h
        exact ⟨.bool !z, by simp only [Sem.run_bind, hg, Result.andThen_ok]; simp [binOp, key z hz], VR.bool _⟩
    · cases h
  · cases h
end
end Go.Abs
