/- The abstract machine's operations are the model's: those that leave the heap as it is. Conditions: none. -/
import Derived.Test.YtnladombaepkkaaGreatDoorAbs2
set_option linter.all false
namespace Go.Abs
open Go

structure COK (P : Program) (C : Cfg) : Prop where
  T : ∀ t i, C.T t = some i → TIOK P t i
  nG : C.nG ≤ P.globals.size
  E : ∀ t, C.E t = true → flatEq P 9 t = true ∧ P.eqGuardType P.depth t = false

section
variable {P : Program} {C : Cfg} {r : Ren} {H : Heap} {w : World}

theorem run_under {t : TypeId} {d : TypeDesc} (h : P.underlying t = some d) : (underlying t).run P w = .ok d w := run_underlying h w
theorem run_info {t : TypeId} {x : TypeInfo} (h : P.info? t = some x) : (typeInfo t).run P w = .ok x w := by
  simp [typeInfo, h]
theorem run_size {t : TypeId} {i : TI} (hi : TIOK P t i) : (sizeOf t).run P w = .ok i.size w := by
  obtain ⟨x, hx, h1, _⟩ := hi.info
  simp [sizeOf, run_info hx, h1]
theorem run_agg {t : TypeId} {i : TI} (hi : TIOK P t i) : (isAgg t).run P w = .ok i.agg w := by
  obtain ⟨d, hd, hk⟩ := hi.desc
  unfold isAgg
  simp only [Sem.run_bind, run_under hd, Result.andThen_ok]
  unfold TI.agg
  cases hik : i.k <;> simp only [hik, KOK] at hk
  case other => cases d <;> simp_all
  case struct fs => obtain ⟨a, rfl, _⟩ := hk; rfl
  case func => obtain ⟨_, _, _, rfl⟩ := hk; rfl
  all_goals (subst hk; rfl)

theorem VR.cells {a : AV} {v : Value} (h : VR r a v) : VRL r a.cells v.cells.toList := by
  cases a <;> simp only [VR] at h <;> simp only [AV.cells]
  case ag l => obtain ⟨x, rfl, hx⟩ := h; simpa [Value.cells] using hx
  case b => subst h; simp [Value.cells, VRL, VR]
  case i => subst h; simp [Value.cells, VRL, VR]
  case s => subst h; simp [Value.cells, VRL, VR]
  case np => subst h; simp [Value.cells, VRL, VR]
  case ns => subst h; simp [Value.cells, VRL, VR]
  case nf => subst h; simp [Value.cells, VRL, VR]
  case ni => subst h; simp [Value.cells, VRL, VR]
  case nm => subst h; simp [Value.cells, VRL, VR]
  case p => obtain ⟨c, e, h1, rfl⟩ := h; simp only [Value.cells, VRL, VR]; exact ⟨_, _, rfl, ⟨c, e, h1, rfl⟩, rfl⟩
  case mp => obtain ⟨c, e, h1, rfl⟩ := h; simp only [Value.cells, VRL, VR]; exact ⟨_, _, rfl, ⟨c, e, h1, rfl⟩, rfl⟩
  case sl => obtain ⟨c, e, k, h1, rfl, h3⟩ := h; simp only [Value.cells, VRL, VR]; exact ⟨_, _, rfl, ⟨c, e, k, h1, rfl, h3⟩, rfl⟩
  case em => obtain ⟨c, e, rfl⟩ := h; simp only [Value.cells, VRL, VR]; exact ⟨_, _, rfl, ⟨c, e, rfl⟩, rfl⟩
  case fn => obtain ⟨c, e, rfl, h3⟩ := h; simp only [Value.cells, VRL, VR]; exact ⟨_, _, rfl, ⟨c, e, rfl, h3⟩, rfl⟩
  case tu => obtain ⟨c, rfl, h3⟩ := h; simp only [Value.cells, VRL, VR]; exact ⟨_, _, rfl, ⟨c, rfl, h3⟩, rfl⟩
  case ifc => obtain ⟨c, rfl, h3⟩ := h; simp only [Value.cells, VRL, VR]; exact ⟨_, _, rfl, ⟨c, rfl, h3⟩, rfl⟩
  case raw =>
    have hv : v.cells = #[v] := by cases v <;> first | rfl | exact absurd rfl (h _)
    rw [hv]; simp only [VRL, VR]; exact ⟨_, _, rfl, h, rfl⟩

theorem VR.one {a : AV} {v : Value} (h : VR r a v) (ha : a.one = true) : v.oneCell' = true := by
  cases a <;> simp only [VR] at h <;> simp only [AV.one, Bool.false_eq_true] at ha
  all_goals first
    | (subst h; rfl)
    | (obtain ⟨_, _, _, rfl⟩ := h; rfl)
    | (obtain ⟨_, _, rfl⟩ := h; rfl)
    | (obtain ⟨_, rfl, _⟩ := h; rfl)
    | (obtain ⟨_, _, rfl, _⟩ := h; rfl)
    | (obtain ⟨_, _, _, _, rfl, _⟩ := h; rfl)

theorem cAV1_ok {v : Value} {a : AV} (h : cAV1 v = some a) : VR r a v := by
  unfold cAV1 at h
  split at h <;> first | (cases h; simp only [VR]; done) | (cases h; simp [VR]; done) | cases h
theorem cAVs_ok : ∀ {l : List Value} {m : List AV}, cAVs l = some m → VRL r m l
  | [], m, h => by simp only [cAVs, Option.some.injEq] at h; subst h; simp [VRL]
  | v :: l, m, h => by
    simp only [cAVs] at h
    split at h
    · rename_i a m' h1 h2
      cases h
      simp only [VRL]
      exact ⟨v, l, rfl, cAV1_ok h1, cAVs_ok h2⟩
    · cases h
theorem cAV_ok {v : Value} {a : AV} (h : cAV v = some a) : VR r a v := by
  unfold cAV at h
  split at h
  · rename_i cs
    split at h
    · rename_i l hl
      cases h
      simp only [VR]
      exact ⟨cs.toList, by simp, cAVs_ok hl⟩
    · cases h
  · exact cAV1_ok h

/-- A frame's slots. -/
def TMR (r : Ren) (n : Nat) (tm : TM) (t : Array Value) : Prop :=
  t.size = n ∧ ∀ j v, tm.get j = some v → ∃ c, t[j]? = some c ∧ VR r v c

theorem aev_ok (hC : COK P C) (s : Sim P r H w) {n : Nat} {tm : TM} {a : Act} (ht : TMR r n tm a.tmps) {x : Operand} {v : AV} (h : aev C tm x = some v) : VR r v (a.eval x) := by
  cases x with
  | tmp t =>
    obtain ⟨c, h1, h2⟩ := ht.2 t v h
    simpa [Act.eval, Array.getD, Array.getElem?_eq_some_iff, h1] using (by
      have : (a.eval (.tmp t)) = c := by simp [Act.eval, h1]
      rw [this]; exact h2 : VR r v (a.eval (.tmp t)))
  | const u => exact cAV_ok h
  | global g =>
    simp only [aev, Bool.cond_eq_ite] at h
    split at h
    · rename_i hg
      cases h
      have hg' : g < C.nG := by simpa using hg
      obtain ⟨e, he⟩ := s.glb g (Nat.lt_of_lt_of_le hg' hC.nG)
      simp only [VR]
      exact ⟨g, e, he, rfl⟩
    · cases h
  | func f =>
    simp only [aev, Option.some.injEq] at h
    subst h
    simp only [VR, VRL]
    exact ⟨[], [], rfl, rfl, rfl⟩

theorem aevs_ok {ρ : Operand → Option AV} {σ : Operand → Value} (hρ : ∀ x v, ρ x = some v → VR r v (σ x)) : ∀ {l : List Operand} {m : List AV}, aevs ρ l = some m → VRL r m (l.map σ)
  | [], m, h => by simp only [aevs, Option.some.injEq] at h; subst h; simp [VRL]
  | x :: l, m, h => by
    simp only [aevs] at h
    split at h
    · rename_i a m' h1 h2
      cases h
      simp only [List.map_cons, VRL]
      exact ⟨_, _, rfl, hρ _ _ h1, aevs_ok hρ h2⟩
    · cases h
end
end Go.Abs
