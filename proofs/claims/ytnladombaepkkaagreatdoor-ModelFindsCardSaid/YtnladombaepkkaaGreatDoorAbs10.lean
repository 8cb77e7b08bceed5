/- The abstract machine's operations are the model's: those that make or change memory. Conditions: none. -/
import Derived.Test.YtnladombaepkkaaGreatDoorAbs9
set_option linter.all false
namespace Go.Abs
open Go
section
variable {P : Program} {C : Cfg} {r : Ren} {H : Heap} {w : World}

/-- What an operation that gives a value, or none, does to the world. -/
def Gives (P : Program) (r : Ren) (H : Heap) (w : World) (s : Sem Value) (v : AV) (H' : Heap) : Prop :=
  ∃ c w' r', s.run P w = .ok c w' ∧ VR r' v c ∧ Sim P r' H' w' ∧ Ext r H w r' H' w'

theorem aones_ok : ∀ {l : List AV} {x : List Value}, VRL r l x → aones l = true → ∀ v ∈ x, v.oneCell' = true
  | [], x, h, _ => by simp only [VRL] at h; subst h; intro v hv; cases hv
  | a :: l, x, h, ho => by
    simp only [VRL] at h; obtain ⟨c, y, rfl, h2, h3⟩ := h
    simp only [aones, Bool.and_eq_true] at ho
    intro v hv
    rcases List.mem_cons.1 hv with rfl | hv
    · exact h2.one ho.1
    · exact aones_ok h3 ho.2 v hv

/-- An operation that makes one new block. -/
def Makes (P : Program) (r : Ren) (w : World) (s : Sem Value) (v : AV) (B : Blk) : Prop :=
  ∃ (n : Nat) (x y : List Value) (el : TypeId) (fz : Nat × Nat) (c : Value), s.run P w = .ok c (World.alloc { w with drawn := n } (.cells (x ++ y).toArray el fz)) ∧ VRL r B.cells x ∧ B.wr = true ∧
    (fz.1 ≤ fz.2 ∧ ∀ j, j < (x ++ y).length → (fz.1 ≤ j && j < fz.2) = false) ∧ ∀ (r' : Ren) (b : Nat), r' b = some (w.heap.size, (x ++ y).length) → VR r' (v.rebase b) c

theorem upd_self (r : Ren) (b : Nat) (x : Nat × Nat) : upd r b x b = some x := by simp [upd]

theorem Makes.gives {s : Sem Value} {v : AV} {B : Blk} (h : Makes P r w s v B) (si : Sim P r H w) (hv : v.rebase H.next = v) : Gives P r H w s v (H.alloc B) := by
  obtain ⟨n, x, y, el, fz, c, h1, h2, h3, h4, h5⟩ := h
  obtain ⟨s', e'⟩ := (si.drew n).alloc B (x ++ y) el fz (.inl h4) ⟨x, y, rfl, h2⟩
  refine ⟨c, _, _, h1, ?_, s', (Ext.drew r H w n).trans e'⟩
  rw [← hv]
  exact h5 _ _ (upd_self _ _ _)

theorem new_run (w : World) (x : List Value) (el : TypeId) : (newRow el x.toArray).run P w = .ok ⟨w.heap.size, 0, none⟩ (World.alloc { w with drawn := w.drawn } (.cells (x ++ []).toArray el (0, 0))) := by
  rw [List.append_nil]; rfl

theorem box_ok {a : AV} {u : Value} (h : VR r a u) (el : TypeId) (k : Nat) : Makes P r w (Instr.box el u) (.p k 0) ⟨a.cells, true⟩ := by
  have h1 := new_run (P := P) w u.cells.toList el
  refine ⟨w.drawn, u.cells.toList, [], el, (0, 0), .pointer (some ⟨w.heap.size, 0, none⟩), ?_, h.cells, rfl, ⟨Nat.le_refl _, fun j _ => by simp⟩, fun r' b hb => by simp only [AV.rebase, VR]; exact ⟨_, _, hb, rfl⟩⟩
  simp only [Instr.box, newVar, Sem.run_bind]
  rw [Array.toArray_toList] at h1
  simp only [h1, Result.andThen_ok, Sem.run_pure]

theorem alloc_ok (hC : COK P C) {e : TypeId} {ei : TI} (he : C.T e = some ei) (old : Value) (k : Nat) : Makes P r w (Instr.alloc e true old) (.p k 0) ⟨ei.zero, true⟩ := by
  obtain ⟨z, hz, hv⟩ := zero_ok (P := P) (r := r) (w := w) hC he
  have h1 := new_run (P := P) w z.cells.toList e
  refine ⟨w.drawn, z.cells.toList, [], e, (0, 0), .pointer (some ⟨w.heap.size, 0, none⟩), ?_, hv, rfl, ⟨Nat.le_refl _, fun j _ => by simp⟩, fun r' b hb => by simp only [AV.rebase, VR]; exact ⟨_, _, hb, rfl⟩⟩
  simp only [Instr.alloc, newVar, Sem.run_bind, hz, Result.andThen_ok]
  rw [Array.toArray_toList] at h1
  simp only [Sem.run_bind, h1, Result.andThen_ok, Sem.run_pure]

theorem areps_ok {z : List AV} {x : List Value} (h : VRL r z x) : ∀ n, VRL r (areps n z) (List.replicate n x).flatten
  | 0 => by simp [areps, VRL]
  | n + 1 => by simp only [areps, List.replicate_succ, List.flatten_cons]; exact h.append (areps_ok h n)

theorem zeros_list (x : List Value) : ∀ n, ((Array.range (n * x.length)).map (fun i => x.toArray[i % x.toArray.size]!)).toList = (List.replicate n x).flatten
  | 0 => by simp
  | n + 1 => by
    have ih := zeros_list x n
    simp only [Array.toList_map, Array.toList_range] at ih ⊢
    rw [Nat.add_mul, Nat.one_mul, List.range_add, List.map_append, ih, List.map_map]
    have : List.replicate (n + 1) x = List.replicate n x ++ [x] := List.replicate_succ'
    rw [this, List.flatten_append]
    congr 1
    simp only [List.flatten_cons, List.flatten_nil, List.append_nil]
    apply List.ext_getElem?
    intro i
    simp only [List.getElem?_map, List.getElem?_range]
    by_cases hi : i < x.length
    · have hm : (n * x.length + i) % x.length = i := by rw [Nat.mul_comm, Nat.mul_add_mod]; exact Nat.mod_eq_of_lt hi
      simp [List.getElem?_range, hi, hm]
    · simp [hi]
end
end Go.Abs
