/- The abstract machine: heaps that grow, and slices as lists. Conditions: none. -/
import Derived.Test.YtnladombaepkkaaGreatDoorAbs27
set_option linter.all false
namespace Go.Abs
open Go
theorem Heap.Sub.refl (H : Heap) : H.Sub H := fun _ _ h => h
theorem Heap.Sub.trans {a b c : Heap} (h : a.Sub b) (k : b.Sub c) : a.Sub c := fun x y h' => k x y (h x y h')
theorem Heap.get_set_ne (h : Heap) {b j : Nat} (x : Blk) (hn : b ≠ j) : (h.set b x).get j = h.get j := by
  simp only [Heap.get_if, Heap.set, Tr.get_put, if_neg hn]
theorem Heap.Sub.alloc {H H' : Heap} (h : H.Sub H') (x : Blk) : H.Sub (H'.alloc x) := h.trans (Heap.sub_alloc _ _)
theorem Heap.Sub.set {H H' : Heap} (h : H.Sub H') {b : Nat} (hb : H.next ≤ b) (x : Blk) : H.Sub (H'.set b x) := fun c y hc => by
  rw [Heap.get_set_ne H' x (by have := Heap.lt_of_get hc; omega)]; exact h c y hc
theorem Heap.Sub.turn {H H' : Heap} (h : H.Sub H') {b : Nat} (hb : H.next ≤ b) (x : Blk) : H.Sub (H'.turn b x) := fun c y hc => by
  have h1 := Heap.lt_of_get hc
  have h2 := Heap.lt_of_get (h c y hc)
  rw [Heap.get_turn, if_neg (by omega), if_neg (by omega)]; exact h c y hc
theorem next_ne {b n : Nat} (h : b < n) : (n = b) = False := by simp; omega
theorem next_ne' {b n : Nat} (h : b < n) : (b = n) = False := by simp; omega
theorem next_ne_add {b n k : Nat} (h : b < n) : (n + k = b) = False := by simp; omega
theorem next_ne_add' {b n k : Nat} (h : b < n) : (b = n + k) = False := by simp; omega

/-- A slice of elements of 'sz' cells each. -/
def SlR (H : Heap) (sz : Nat) (els : List (List AV)) (v : AV) : Prop :=
  (∀ c ∈ els, c.length = sz) ∧ ((els = [] ∧ (v = .ns ∨ v = .em)) ∨
    ∃ b o cap B, v = .sl b o els.length cap ∧ H.get b = some B ∧ (B.cells.drop o).take (els.length * sz) = els.flatten ∧ o + els.length * sz ≤ B.cells.length)
theorem SlR.mono {H H' : Heap} {sz : Nat} {els : List (List AV)} {v : AV} (h : SlR H sz els v) (hs : H.Sub H') : SlR H' sz els v := by
  obtain ⟨h1, h2 | ⟨b, o, cap, B, h2, h3, h4⟩⟩ := h
  · exact ⟨h1, .inl h2⟩
  · exact ⟨h1, .inr ⟨b, o, cap, B, h2, hs _ _ h3, h4⟩⟩
theorem SlR.len {H : Heap} {sz : Nat} {els : List (List AV)} {v : AV} (h : SlR H sz els v) (e : Nat) : alenT (.slice e) v = some (.i .i64 els.length) := by
  obtain ⟨h1, ⟨rfl, rfl | rfl⟩ | ⟨b, o, cap, B, rfl, h3, h4⟩⟩ := h <;> rfl
theorem flatten_at {sz : Nat} : ∀ {els : List (List AV)} (_ : ∀ c ∈ els, c.length = sz) {i : Nat} (hi : i < els.length), (els.flatten.drop (i * sz)).take sz = els[i]
  | [], _, i, hi => by simp at hi
  | a :: els, h, 0, _ => by
    have ha : a.length = sz := h a (List.mem_cons_self ..)
    simp [← ha]
  | a :: els, h, i + 1, hi => by
    have ha : a.length = sz := h a (List.mem_cons_self ..)
    have ih := flatten_at (els := els) (fun c hc => h c (List.mem_cons_of_mem _ hc)) (i := i) (by simpa using hi)
    simp only [List.flatten_cons, List.getElem_cons_succ]
    rw [← ih, Nat.add_mul, Nat.one_mul, Nat.add_comm, ← List.drop_drop, ← ha, List.drop_left]
theorem SlR.at {H : Heap} {sz : Nat} {els : List (List AV)} {v : AV} (h : SlR H sz els v) {i : Nat} (hi : i < els.length) :
    ∃ b o cap B, v = .sl b o els.length cap ∧ H.get b = some B ∧ (B.cells.drop (o + i * sz)).take sz = els[i] ∧ o + i * sz + sz ≤ B.cells.length := by
  obtain ⟨h1, ⟨rfl, _⟩ | ⟨b, o, cap, B, rfl, h3, h4, h5⟩⟩ := h
  · simp at hi
  · refine ⟨b, o, cap, B, rfl, h3, ?_, ?_⟩
    · rw [← flatten_at h1 hi, ← h4, List.drop_take, List.drop_drop, List.take_take]
      congr 1
      have : (i + 1) * sz ≤ els.length * sz := Nat.mul_le_mul_right _ hi
      rw [Nat.add_mul, Nat.one_mul] at this
      omega
    · have : (i + 1) * sz ≤ els.length * sz := Nat.mul_le_mul_right _ hi
      rw [Nat.add_mul, Nat.one_mul] at this
      omega
end Go.Abs
