/- The abstract machine: an operation hangs on its operands alone; new blocks disturb nothing. Conditions: none. -/
import Derived.Test.YtnladombaepkkaaGreatDoorAbs13
set_option linter.all false
namespace Go.Abs
open Go

theorem aevs_congr {ρ ρ' : Operand → Option AV} : ∀ {l : List Operand}, (∀ x ∈ l, ρ x = ρ' x) → aevs ρ l = aevs ρ' l
  | [], _ => rfl
  | x :: l, h => by
    simp only [aevs]
    rw [h x (List.mem_cons_self ..), aevs_congr fun y hy => h y (List.mem_cons_of_mem _ hy)]
theorem aparts_congr {ρ ρ' : Operand → Option AV} : ∀ {l : List (Nat × Operand)}, (∀ x ∈ l, ρ x.2 = ρ' x.2) → aparts ρ l = aparts ρ' l
  | [], _ => rfl
  | x :: l, h => by
    simp only [aparts]
    rw [h x (List.mem_cons_self ..), aparts_congr fun y hy => h y (List.mem_cons_of_mem _ hy)]

theorem parts_mem {ρ ρ' : Operand → Option AV} {ps : Array (Nat × Operand)} (h : ∀ x ∈ (ps.toList.map (·.2)).toArray, ρ x = ρ' x) : ∀ x ∈ ps.toList, ρ x.2 = ρ' x.2 :=
  fun x hx => h x.2 (by simp only [List.mem_toArray, List.mem_map]; exact ⟨x, hx, rfl⟩)

theorem aval_congr {C : Cfg} {H : Heap} {ρ ρ' : Operand → Option AV} {op : Op} (h : ∀ x ∈ op.operands, ρ x = ρ' x) : aval C H ρ op = aval C H ρ' op := by
  cases op <;> simp only [Op.operands] at h <;> simp only [aval]
  case build t ps => rw [aparts_congr (parts_mem h)]
  case makeFunc f a b =>
    rw [aevs_congr (l := a.toList) fun x hx => h x (by simp at hx ⊢; exact .inl hx), aevs_congr (l := b.toList) fun x hx => h x (by simp at hx ⊢; exact .inr hx)]
  case call c =>
    have : aevs ρ c.args.toList = aevs ρ' c.args.toList := aevs_congr fun x hx => h x (by simp [Call.operands] at hx ⊢; exact .inr hx)
    rw [this]
  case slice t x lo hi mx =>
    cases mx <;> simp only
    have h0 : ρ x = ρ' x := h x (by simp)
    have h1 : ∀ l, lo = some l → ρ l = ρ' l := fun l e => h l (by subst e; simp)
    have h2 : ∀ l, hi = some l → ρ l = ρ' l := fun l e => h l (by subst e; simp)
    rw [h0]
    cases lo <;> cases hi <;> simp_all
  all_goals (first | rfl | (simp_all; done))

theorem amake_congr {C : Cfg} {H : Heap} {ρ ρ' : Operand → Option AV} {op : Op} (h : ∀ x ∈ op.operands, ρ x = ρ' x) : amake C H ρ op = amake C H ρ' op := by
  cases op <;> simp only [Op.operands] at h <;> simp only [amake]
  case buildSlice t n ps => rw [aparts_congr (parts_mem h)]
  case call c =>
    have : aevs ρ c.args.toList = aevs ρ' c.args.toList := aevs_congr fun x hx => h x (by simp [Call.operands] at hx ⊢; exact .inr hx)
    rw [this]
  all_goals (first | rfl | (simp_all; done))

theorem aopV_congr {P : Program} {C : Cfg} {op : Op} {K : Option AV → Heap → Prop} {ρ ρ' : Operand → Option AV} {H : Heap} (h : ∀ x ∈ op.operands, ρ x = ρ' x) (hk : aopV P C op K ρ H) : aopV P C op K ρ' H := by
  have e1 := aval_congr (C := C) (H := H) h
  have e2 := amake_congr (C := C) (H := H) h
  unfold aopV at hk ⊢
  split at hk
  · rename_i t a x
    simp only [Op.operands] at h
    rw [h a (by simp), h x (by simp)] at hk
    exact hk
  · rename_i f args at_
    simp only [Op.operands, Call.operands] at h
    rw [h f (by simp), aevs_congr (l := args.toList) fun x hx => h x (by simp at hx ⊢; exact .inr hx)] at hk
    exact hk
  · rename_i n1 n2
    rw [e1, e2] at hk
    exact hk

/-- The heap is only read where it was: a new block disturbs nothing. -/
def Heap.Sub (H H' : Heap) : Prop := ∀ b x, H.get b = some x → H'.get b = some x
theorem Heap.sub_alloc (H : Heap) (x : Blk) : H.Sub (H.alloc x) := fun b y h => by
  rw [Heap.get_alloc, if_neg (by have := Heap.lt_of_get h; omega)]; exact h

theorem aload_sub {C : Cfg} {H H' : Heap} (h : H.Sub H') {t : TypeId} {b o : Nat} {v : AV} (hv : aload C H t b o = some v) : aload C H' t b o = some v := by
  unfold aload at hv ⊢
  cases hi : C.T t with
  | none => rw [hi] at hv; cases hv
  | some i =>
    cases hb : H.get b with
    | none => rw [hi, hb] at hv; cases hv
    | some B => rw [hi, hb] at hv; rw [h b B hb]; exact hv

theorem aconv_sub {C : Cfg} {H H' : Heap} (h : H.Sub H') {s d : TypeId} {x v : AV} (hv : aconv C H s d x = some v) : aconv C H' s d x = some v := by
  unfold aconv at hv ⊢
  split at hv
  · rename_i si di hs hd
    split at hv
    · exact hv
    · exact hv
    · exact hv
    · split at hv
      · rename_i B he hb
        simp only [he, h _ _ hb]
        exact hv
      · cases hv
    · cases hv
  · cases hv

theorem aval_sub {C : Cfg} {H H' : Heap} (h : H.Sub H') {ρ : Operand → Option AV} {op : Op} {v : AV} (hv : aval C H ρ op = some v) : aval C H' ρ op = some v := by
  cases op <;> simp only [aval] at hv ⊢
  case load t a =>
    split at hv
    · exact aload_sub h hv
    · cases hv
  case convert s d x =>
    split at hv
    · exact aconv_sub h hv
    · cases hv
  case slice t x lo hi mx => cases mx <;> exact hv
  all_goals exact hv

/-- Operations whose value hangs on no memory. -/
def pureOp : Op → Bool
  | .load _ _ => false
  | .convert _ _ _ => false
  | _ => true
theorem aval_pure {C : Cfg} {H H' : Heap} {ρ : Operand → Option AV} {op : Op} (hp : pureOp op = true) : aval C H ρ op = aval C H' ρ op := by
  cases op <;> first | (cases hp; done) | rfl | (rename_i mx; cases mx <;> rfl)
end Go.Abs
