/- The abstract machine's operations are the model's: comparisons, conversions, places, and all that leave the heap as it is. Conditions: none. -/
import Derived.Test.YtnladombaepkkaaGreatDoorAbs4
set_option linter.all false
namespace Go.Abs
open Go
section
variable {P : Program} {C : Cfg} {r : Ren} {H : Heap} {w : World}

theorem eqGuard_plain (op : BinOp) (t : TypeId) (x y : Operand) {a : AV} {u v : Value} (ha : VR r a u) (h1 : ∀ l, a ≠ .ag l) (h2 : a ≠ .ni) (h3 : a ≠ .raw) :
    (eqGuard op t x y u v).run P w = .ok () w := by
  unfold eqGuard
  by_cases hop : (op matches .eql | .neq) = true
  · cases a <;> simp only [VR] at ha
    case ag l => exact absurd rfl (h1 l)
    case ni => exact absurd rfl h2
    case raw => exact absurd rfl h3
    all_goals first
      | (subst ha; simp [hop]; done)
      | (obtain ⟨_, _, _, _, rfl, _⟩ := ha; simp [hop]; done)
      | (obtain ⟨_, _, rfl, _⟩ := ha; simp [hop]; done)
      | (obtain ⟨_, _, _, rfl⟩ := ha; simp [hop]; done)
      | (obtain ⟨_, _, rfl⟩ := ha; simp [hop]; done)
      | (obtain ⟨_, rfl, _⟩ := ha; simp [hop]; done)
  · cases op <;> simp at hop ⊢

theorem aeq1_ok (hC : COK P C) {t : TypeId} {a b : AV} {u v : Value} (ha : VR r a u) (hb : VR r b v) {x : Bool} (h : aeq1 a b = some x)
    (hn : ∀ k n, a ≠ .i k n) (hs : ∀ l, a ≠ .s l) (ht : eqTy C t a = true) : (Op.equal t u v).run P w = .ok x w := by
  show (Op.equalIn (9999 + 1) t u v).run P w = _
  generalize 9999 = dd
  have key : ∀ i, C.T t = some i → ∃ d, P.underlying t = some d ∧ KOK P d i.k := fun i hi => (hC.T t i hi).desc
  cases a <;> cases b <;> simp only [aeq1] at h <;> simp only [VR] at ha hb
  case i.i => exact absurd rfl (hn _ _)
  case s.s => exact absurd rfl (hs _)
  all_goals first | (cases h; done) | skip
  all_goals
    simp only [eqTy] at ht
    split at ht <;> first | (cases ht; done) | skip
    rename_i hT
    obtain ⟨d, hd, hk⟩ := key _ hT
    simp only [KOK] at hk
  all_goals
    first
      | (obtain ⟨_, _, _, rfl⟩ := hk; obtain ⟨_, _, rfl, _⟩ := ha; subst hb; cases h; simp [Op.equalIn, run_under hd]; done)
      | (obtain ⟨_, _, _, rfl⟩ := hk; obtain ⟨_, _, rfl, _⟩ := hb; subst ha; cases h; simp [Op.equalIn, run_under hd]; done)
      | (obtain ⟨_, _, _, rfl⟩ := hk; subst ha hb; cases h; simp [Op.equalIn, run_under hd]; done)
      | skip
  all_goals subst hk
  all_goals
    first
      | (subst ha hb; cases h; simp [Op.equalIn, run_under hd]; done)
      | (obtain ⟨_, _, _, rfl⟩ := ha; subst hb; cases h; simp [Op.equalIn, run_under hd]; done)
      | (obtain ⟨_, _, _, rfl⟩ := hb; subst ha; cases h; simp [Op.equalIn, run_under hd]; done)
      | (obtain ⟨_, _, _, _, rfl, _⟩ := ha; subst hb; cases h; simp [Op.equalIn, run_under hd]; done)
      | (obtain ⟨_, _, _, _, rfl, _⟩ := hb; subst ha; cases h; simp [Op.equalIn, run_under hd]; done)

theorem binOp_eql_run {t : TypeId} {u v : Value} (h1 : ∀ k n, u ≠ .int k n) (h2 : ∀ l, u ≠ .string l) (h3 : ∀ k n, u ≠ .float k n) (h4 : ∀ k n m, u ≠ .complex k n m) {x : Bool}
    (h : (Op.equal t u v).run P w = .ok x w) : (binOp .eql t u v).run P w = .ok (.bool x) w ∧ (binOp .neq t u v).run P w = .ok (.bool !x) w := by
  cases u
  case int => exact absurd rfl (h1 _ _)
  case string => exact absurd rfl (h2 _)
  case float => exact absurd rfl (h3 _ _)
  case complex => exact absurd rfl (h4 _ _ _)
  all_goals (constructor <;> simp [binOp, h])

theorem abinop_ok (hC : COK P C) {op : BinOp} {t : TypeId} {x y : Operand} {a b v : AV} {p q : Value} (ha : VR r a p) (hb : VR r b q) (h : abinop op a b = some v)
    (ht : isEq op = true → eqTy C t a = true) :
    ∃ c, (do eqGuard op t x y p q; binOp op t p q : Sem Value).run P w = .ok c w ∧ VR r v c := by
  have hg : (∀ l, a ≠ .ag l) → a ≠ .ni → a ≠ .raw → ∀ c, (binOp op t p q).run P w = .ok c w → VR r v c → ∃ c, (do eqGuard op t x y p q; binOp op t p q : Sem Value).run P w = .ok c w ∧ VR r v c := by
    intro h1 h2 h3 c hc hv
    refine ⟨c, ?_, hv⟩
    simp only [Sem.run_bind, eqGuard_plain (P := P) (w := w) op t x y ha h1 h2 h3, Result.andThen_ok, hc]
  unfold abinop at h
  split at h
  · rename_i k n k' m
    simp only [VR] at ha hb; subst ha hb
    unfold aints at h
    split at h
    · split at h
      · cases h
      · rename_i hm; cases h
        exact hg (by simp) (by simp) (by simp) _ (by simp [binOp, Op.shift, hm]) (VR.int _ _)
    · split at h
      · cases h
      · rename_i hm; cases h
        exact hg (by simp) (by simp) (by simp) _ (by simp [binOp, Op.shift, hm]) (VR.int _ _)
    · rename_i h1 h2
      split at h
      · rename_i hk; subst hk
        obtain ⟨c, hc, hv⟩ := abin_ok (P := P) (r := r) (w := w) (t := t) ⟨fun e => h1 e, fun e => h2 e⟩ h
        exact hg (by simp) (by simp) (by simp) c hc hv
      · cases h
  · rename_i l m
    simp only [VR] at ha hb; subst ha hb
    obtain ⟨c, hc, hv⟩ := astr_ok (P := P) (r := r) (w := w) (t := t) h
    exact hg (by simp) (by simp) (by simp) c hc hv
  · rename_i hni hns
    have fin : ∀ z, aeq1 a b = some z → isEq op = true → (binOp .eql t p q).run P w = .ok (.bool z) w ∧ (binOp .neq t p q).run P w = .ok (.bool !z) w := by
      intro z hz hop
      have e1 : ∀ k n, a ≠ .i k n := by
        rintro k n rfl
        cases b <;> simp [aeq1] at hz
        exact hni _ _ _ _ rfl rfl
      have e2 : ∀ l, a ≠ .s l := by
        rintro l rfl
        cases b <;> simp [aeq1] at hz
        exact hns _ _ rfl rfl
      refine binOp_eql_run ?_ ?_ ?_ ?_ (aeq1_ok hC ha hb hz e1 e2 (ht hop))
      all_goals
        intro _
        cases a <;> simp only [VR] at ha
        case raw => simp [aeq1] at hz
        all_goals first
          | exact absurd rfl (e1 _ _)
          | exact absurd rfl (e2 _)
          | (subst ha; simp; done)
          | (obtain ⟨_, _, _, _, rfl, _⟩ := ha; simp; done)
          | (obtain ⟨_, _, rfl, _⟩ := ha; simp; done)
          | (obtain ⟨_, _, _, rfl⟩ := ha; simp; done)
          | (obtain ⟨_, _, rfl⟩ := ha; simp; done)
          | (obtain ⟨_, rfl, _⟩ := ha; simp; done)
    have ne1 : ∀ z, aeq1 a b = some z → (∀ l, a ≠ .ag l) ∧ a ≠ .ni ∧ a ≠ .raw := by
      intro z hz
      refine ⟨?_, ?_, ?_⟩
      · rintro l rfl; simp [aeq1] at hz
      · rintro rfl; simp [aeq1] at hz
      · rintro rfl; simp [aeq1] at hz
    unfold aoth at h
    split at h
    · cases hz : aeq1 a b with
      | none => rw [hz] at h; cases h
      | some z => rw [hz] at h; cases h; exact hg (ne1 z hz).1 (ne1 z hz).2.1 (ne1 z hz).2.2 _ (fin z hz rfl).1 (VR.bool _)
    · cases hz : aeq1 a b with
      | none => rw [hz] at h; cases h
      | some z => rw [hz] at h; cases h; exact hg (ne1 z hz).1 (ne1 z hz).2.1 (ne1 z hz).2.2 _ (fin z hz rfl).2 (VR.bool _)
    · cases h
end
end Go.Abs
