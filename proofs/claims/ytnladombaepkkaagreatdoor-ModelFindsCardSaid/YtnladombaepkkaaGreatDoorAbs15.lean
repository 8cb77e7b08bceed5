/- The abstract machine: regions that draw their order, what is asked of them. Conditions: none. -/
import Derived.Test.YtnladombaepkkaaGreatDoorAbs14
set_option linter.all false
namespace Go.Abs
open Go

def maker : Op → Bool
  | .alloc _ => true
  | .box _ _ => true
  | .buildSlice _ _ _ => true
  | .makeSlice _ _ _ => true
  | .convert s d _ => !(s == d)
  | _ => false
def mild : Op → Bool
  | .move _ => true
  | .assign _ => true
  | .pick _ _ _ => true
  | .build _ _ => true
  | .load _ _ => true
  | .nilCheck _ => true
  | .binOp _ _ _ _ _ => true
  | .unOp _ _ _ => true
  | .convert s d _ => !(s == d)
  | .slice _ _ _ _ _ => true
  | .fieldAddr _ _ _ => true
  | .field _ _ _ => true
  | .indexAddr _ _ _ => true
  | .index _ _ _ => true
  | .extract _ _ => true
  | .makeFunc _ _ _ => true
  | .alloc _ => true
  | .box _ _ => true
  | .buildSlice _ _ _ => true
  | .makeSlice _ _ _ => true
  | .call c => match c.callee with | .builtin .len => true | .builtin .min => true | .builtin .max => true | _ => false
  | _ => false

/-- What a maker makes, apart from where it lies. -/
def mk (C : Cfg) (ρ : Operand → Option AV) (op : Op) : Option (AV × Blk) :=
  bif maker op then (match amake C ⟨0, .l⟩ ρ op with | some (v, H) => (H.get 0).map fun B => (v, B) | none => none) else none

theorem amake_mk {C : Cfg} {H : Heap} {ρ : Operand → Option AV} {op : Op} (hm : maker op = true) {v : AV} {H' : Heap} (h : amake C H ρ op = some (v, H')) :
    ∃ B u, mk C ρ op = some (u, B) ∧ H' = H.alloc B ∧ v = u.rebase H.next := by
  have g0 : ∀ B : Blk, (Heap.alloc ⟨0, .l⟩ B).get 0 = some B := fun B => by rw [Heap.get_alloc]; rfl
  unfold mk
  rw [hm]
  simp only [cond_true]
  cases op <;> first | (cases hm; done) | skip
  case convert s d x =>
    have hne : ¬ s = d := by simpa [maker] using hm
    simp only [amake, if_neg hne] at h ⊢
    repeat' (split at h <;> first | (cases h; done) | skip)
    cases h
    simp_all
    exact ⟨_, _, ⟨rfl, rfl⟩, rfl, rfl⟩
  all_goals
    simp only [amake] at h ⊢
    repeat' (split at h <;> first | (cases h; done) | skip)
    cases h
    simp_all
    exact ⟨_, _, ⟨rfl, rfl⟩, rfl, rfl⟩

theorem mk_blk {C : Cfg} {ρ : Operand → Option AV} {op : Op} {v : AV} {B : Blk} (h : Go.Abs.mk C ρ op = some (v, B)) : maker op = true ∧ ((∃ b o, v = .p b o) ∨ ∃ b o n c, v = .sl b o n c) := by
  unfold Go.Abs.mk at h
  cases hmk : maker op with
  | false => rw [hmk] at h; cases h
  | true =>
    refine ⟨rfl, ?_⟩
    rw [hmk] at h
    simp only [cond_true] at h
    split at h
    · rename_i u H' hv
      cases hg : H'.get 0 with
      | none => rw [hg] at h; cases h
      | some B' =>
        rw [hg] at h; cases h
        cases op <;> first | (cases hmk; done) | skip
        case convert s d x =>
          have hne : ¬ s = d := by simpa [maker] using hmk
          simp only [amake, if_neg hne] at hv
          repeat' (split at hv <;> first | (cases hv; done) | skip)
          cases hv
          exact .inr ⟨_, _, _, _, rfl⟩
        all_goals
          simp only [amake] at hv
          repeat' (split at hv <;> first | (cases hv; done) | skip)
          cases hv
          first | exact .inl ⟨_, _, rfl⟩ | exact .inr ⟨_, _, _, _, rfl⟩
    · cases h

section
variable {P : Program} {C : Cfg} {r : Ren} {w : World}

theorem Makes.next {s : Sem Value} {v : AV} {B : Blk} (h : Makes P r w s v B) :
    ∃ (n : Nat) (x y : List Value) (el : TypeId) (fz : Nat × Nat) (c : Value), (do pure (.value (← s)) : Sem Next).run P w = .ok (.value c) (World.alloc { w with drawn := n } (.cells (x ++ y).toArray el fz)) ∧ VRL r B.cells x ∧ B.wr = true ∧
    (fz.1 ≤ fz.2 ∧ ∀ j, j < (x ++ y).length → (fz.1 ≤ j && j < fz.2) = false) ∧ ∀ (r' : Ren) (b : Nat), r' b = some (w.heap.size, (x ++ y).length) → VR r' (v.rebase b) c := by
  obtain ⟨n, x, y, el, fz, c, h1, h2⟩ := h
  exact ⟨n, x, y, el, fz, c, by simp only [Sem.run_bind, h1, Result.andThen_ok, Sem.run_pure], h2⟩

theorem mk_exec (hC : COK P C) {ρ : Operand → Option AV} {σ : Operand → Value} (hρ : ∀ x v, ρ x = some v → VR r v (σ x)) (o : Oper) {v : AV} {B : Blk}
    (h : mk C ρ o.op = some (v, B)) :
    ∃ (n : Nat) (x y : List Value) (el : TypeId) (fz : Nat × Nat) (c : Value), (execOp σ o).run P w = .ok (.value c) (World.alloc { w with drawn := n } (.cells (x ++ y).toArray el fz)) ∧ VRL r B.cells x ∧ B.wr = true ∧
    (fz.1 ≤ fz.2 ∧ ∀ j, j < (x ++ y).length → (fz.1 ≤ j && j < fz.2) = false) ∧ ∀ (r' : Ren) (b : Nat), r' b = some (w.heap.size, (x ++ y).length) → VR r' (v.rebase b) c := by
  have g0 : ∀ B : Blk, (Heap.alloc ⟨0, .l⟩ B).get 0 = some B := fun B => by rw [Heap.get_alloc]; rfl
  obtain ⟨dst, op, type, pos, after, guard⟩ := o
  simp only [mk, Bool.cond_eq_ite] at h
  split at h
  · rename_i hm
    split at h
    · rename_i u H' hu
      cases hB : H'.get 0 with
      | none => rw [hB] at h; cases h
      | some B' =>
        rw [hB] at h; cases h
        cases op <;> try (cases hm; done)
        case alloc e =>
          simp only [amake] at hu
          split at hu
          · rename_i ei he; cases hu; rw [g0] at hB; cases hB; exact (alloc_ok hC he _ _).next
          · cases hu
        case box e x =>
          simp only [amake] at hu
          split at hu
          · rename_i a ha; cases hu; rw [g0] at hB; cases hB; exact (box_ok (hρ _ _ ha) e _).next
          · cases hu
        case buildSlice t len parts =>
          simp only [amake] at hu
          split at hu
          · rename_i e _ _ _ ps hT hps
            split at hu
            · rename_i ei he
              split at hu
              · rename_i hc
                split at hu
                · rename_i l hl
                  cases hu; rw [g0] at hB; cases hB
                  obtain ⟨k1, k2⟩ := aparts_ok hρ hps
                  have hq : (parts.map fun (p : Nat × Operand) => (p.1, σ p.2)).toList = parts.toList.map fun p => (p.1, σ p.2) := by simp
                  exact (buildSlice_ok hC hT rfl he hc.1 hc.2 (by rw [hq]; exact k1) (by rw [hq]; exact k2) hl _).next
                · cases hu
              · cases hu
            · cases hu
          · cases hu
        case makeSlice t len cap =>
          simp only [amake] at hu
          split at hu
          · rename_i e _ _ _ k l k' c hT hl hc
            split at hu
            · rename_i ei he
              split at hu
              · rename_i hcc
                cases hu; rw [g0] at hB; cases hB
                obtain ⟨c1, c2, c3, c4, c5⟩ := hcc
                have v1 := hρ _ _ hl
                have v2 := hρ _ _ hc
                simp only [VR] at v1 v2
                have := (makeSlice_ok (P := P) (r := r) (w := w) (k := k) (k' := k') hC hT rfl he c1 c2 c3 c4 c5 0).next
                simpa only [execOp, v1, v2] using this
              · cases hu
            · cases hu
          · cases hu
        case convert a b x =>
          have hne : ¬ a = b := by simpa [maker] using hm
          simp only [amake, if_neg hne] at hu
          split at hu
          · rename_i e _ _ _ l h1 h2 h3
            split at hu
            · rename_i he
              cases hu; rw [g0] at hB; cases hB
              have v1 := hρ _ _ h3
              simp only [VR] at v1
              have := (strbytes_ok (P := P) (r := r) (w := w) hC h1 rfl h2 rfl he rfl l 0).next
              simpa only [execOp, v1] using this
            · cases hu
          · cases hu
    · cases h
  · cases h
end

theorem mk_congr {C : Cfg} {ρ ρ' : Operand → Option AV} {op : Op} (h : ∀ x ∈ op.operands, ρ x = ρ' x) : mk C ρ op = mk C ρ' op := by
  unfold mk; rw [amake_congr h]

theorem maker_of_mild {C : Cfg} {H : Heap} {ρ : Operand → Option AV} {op : Op} {x : AV × Heap} (hm : mild op = true) (h : amake C H ρ op = some x) : maker op = true := by
  cases op
  case call c =>
    exfalso
    obtain ⟨callee, args, at_⟩ := c
    cases callee
    case builtin b => cases b <;> first | (simp [mild] at hm; done) | (simp [amake] at h; done)
    all_goals simp [mild] at hm
  case convert s d x => exact hm
  all_goals first | rfl | (simp [amake] at h; done)

/-- A mild operation is a value, or a new block. -/
theorem mild_cases {P : Program} {C : Cfg} {op : Op} (hm : mild op = true) {K : Option AV → Heap → Prop} {ρ : Operand → Option AV} {H : Heap} (h : aopV P C op K ρ H) :
    (∃ v, aval C H ρ op = some v ∧ K (some v) H) ∨ (∃ u B, mk C ρ op = some (u, B) ∧ K (some (u.rebase H.next)) (H.alloc B)) := by
  unfold aopV at h
  split at h
  · cases hm
  · cases hm
  · split at h
    · rename_i v hv; exact .inl ⟨v, hv, h⟩
    · split at h
      · rename_i v H' hv
        have hmk : maker op = true := maker_of_mild hm hv
        obtain ⟨B, u, h1, rfl, rfl⟩ := amake_mk hmk hv
        exact .inr ⟨u, B, h1, h⟩
      · exact h.elim
end Go.Abs
