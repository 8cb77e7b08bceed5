/- A plan, opened. Conditions: none. -/
import Derived.Test.YtnladombaepkkaaGreatDoorArgs
import Derived.Test.YtnladombaepkkaaGreatDoorMade
set_option linter.all false
namespace Go.Proofs.YtnladombaepkkaaGreatDoor
open Go Go.Abs Go.ChangeShapes Go.WideShapes
theorem u3 : Tryz.prog.underlying 3 = some (.int .i64) := by kernel_rfl
theorem u4 : Tryz.prog.underlying 4 = some .bool := by kernel_rfl
theorem u9 : Tryz.prog.underlying 9 = some .string := by kernel_rfl
theorem u29 : Tryz.prog.underlying 29 = some (.int .u64) := by kernel_rfl
theorem u22 : Tryz.prog.underlying 22 = some (.slice 84) := by kernel_rfl
theorem u23 : Tryz.prog.underlying 23 = some (.slice 53) := by kernel_rfl
theorem u24 : Tryz.prog.underlying 24 = some (.slice 54) := by kernel_rfl
theorem u25 : Tryz.prog.underlying 25 = some (.slice 9) := by kernel_rfl
theorem u54 : Tryz.prog.underlying 54 = some (.array 3 3) := by kernel_rfl
theorem c3 : Tryz.prog.cellsOf 3 = 1 := by kernel_rfl
theorem c9 : Tryz.prog.cellsOf 9 = 1 := by kernel_rfl
theorem c22 : Tryz.prog.cellsOf 22 = 1 := by kernel_rfl
theorem c23 : Tryz.prog.cellsOf 23 = 1 := by kernel_rfl
theorem c24 : Tryz.prog.cellsOf 24 = 1 := by kernel_rfl
theorem c25 : Tryz.prog.cellsOf 25 = 1 := by kernel_rfl
theorem c27 : Tryz.prog.cellsOf 27 = 5 := by kernel_rfl
theorem c53 : Tryz.prog.cellsOf 53 = 4 := by kernel_rfl
theorem c54 : Tryz.prog.cellsOf 54 = 3 := by kernel_rfl
theorem c84 : Tryz.prog.cellsOf 84 = 5 := by kernel_rfl
theorem len3 {α : Type} : ∀ {l : List α}, l.length = 3 → ∃ a b c, l = [a, b, c]
  | [a, b, c], _ => ⟨a, b, c, rfl⟩
theorem len4 {α : Type} : ∀ {l : List α}, l.length = 4 → ∃ a b c d, l = [a, b, c, d]
  | [a, b, c, d], _ => ⟨a, b, c, d, rfl⟩
theorem len5 {α : Type} : ∀ {l : List α}, l.length = 5 → ∃ a b c d e, l = [a, b, c, d, e]
  | [a, b, c, d, e], _ => ⟨a, b, c, d, e, rfl⟩
section
variable {E : Type} {enc : TypeId × Value → E} {w : World} {base : Nat} {spare : Nat → Bool} {held : Bool}
/-- The fields of a struct that is read, by what the abstract machine knows of its type. -/
theorem trod_fields {t : TypeId} {fs : List (Nat × Nat × TypeId)} {a b : Nat} {z : List AV} {n : Nat} {cs : List Value} {x : DataW E × List MemPlace} (hT : C0.T t = some ⟨.struct fs, a, b, z⟩) (h : DataW.trod enc Tryz.prog w base spare held n t cs = some x) :
    cs.length = Tryz.prog.cellsOf t ∧ ∀ (i off sz : Nat) (ty : TypeId), fs[i]? = some (off, sz, ty) → ∃ n' y, DataW.trod enc Tryz.prog w base spare held n' ty ((cs.drop off).take (Tryz.prog.cellsOf ty)) = some y := by
  obtain ⟨d, hd, arr, rfl, hm, _⟩ := desc_of hC hT
  obtain ⟨xs, n', _, _, hl, hxl, hf⟩ := DataW.trod_struct hd h
  refine ⟨hl, fun i off sz ty hi => ?_⟩
  have h1 := congrArg (·[i]?) hm
  simp only [List.getElem?_map, hi, Option.map_some] at h1
  obtain ⟨f, hf1, hf2⟩ := Option.map_eq_some_iff.1 h1
  simp only [Prod.mk.injEq] at hf2
  obtain ⟨e1, e2⟩ := hf2
  have hf3 : arr[i]? = some f := by simpa using hf1
  have := hf i f hf3
  rw [e1, e2] at this
  have hlt : i < arr.size := (Array.getElem?_eq_some_iff.1 hf3).1
  rw [List.getElem?_eq_getElem (by omega)] at this
  exact ⟨n', _, this⟩
theorem trod_s {n : Nat} {v : Value} {y : DataW E × List MemPlace} (h : DataW.trod enc Tryz.prog w base spare held n 9 [v] = some y) : ∃ l : List UInt8, v = .string ⟨l.toArray⟩ := by
  obtain ⟨s, e, _⟩ := DataW.trod_string u9 h
  simp only [List.cons.injEq, and_true] at e
  exact ⟨s.data.toList, by rw [e]⟩
theorem trod_i {n : Nat} {v : Value} {y : DataW E × List MemPlace} (h : DataW.trod enc Tryz.prog w base spare held n 3 [v] = some y) : ∃ k : Int, v = .int .i64 k := by
  obtain ⟨k, e, _⟩ := DataW.trod_int u3 h
  simp only [List.cons.injEq, and_true] at e
  exact ⟨k, e⟩
theorem elem84 {n : Nat} {cs : List Value} {x : DataW E × List MemPlace} (h : DataW.trod enc Tryz.prog w base spare held n 84 cs = some x) : ∃ p : PSec, VRL noRen p.cells cs ∧ True := by
  obtain ⟨hl, hf⟩ := trod_fields ty84 h
  rw [c84] at hl
  obtain ⟨v0, v1, v2, v3, v4, rfl⟩ := len5 hl
  obtain ⟨_, _, h0⟩ := hf 0 0 1 9 rfl
  obtain ⟨_, _, h1⟩ := hf 1 1 1 3 rfl
  obtain ⟨_, _, h2⟩ := hf 2 2 1 3 rfl
  obtain ⟨_, _, h3⟩ := hf 3 3 1 3 rfl
  obtain ⟨_, _, h4⟩ := hf 4 4 1 9 rfl
  rw [c9] at h0 h4
  rw [c3] at h1 h2 h3
  obtain ⟨s0, rfl⟩ := trod_s h0
  obtain ⟨k1, rfl⟩ := trod_i h1
  obtain ⟨k2, rfl⟩ := trod_i h2
  obtain ⟨k3, rfl⟩ := trod_i h3
  obtain ⟨s4, rfl⟩ := trod_s h4
  exact ⟨⟨s0, k1, k2, k3, s4⟩, by simp [PSec.cells, VRL, VR], trivial⟩
theorem elem53 {n : Nat} {cs : List Value} {x : DataW E × List MemPlace} (h : DataW.trod enc Tryz.prog w base spare held n 53 cs = some x) : ∃ p : PSym, VRL noRen p.cells cs ∧ True := by
  obtain ⟨hl, hf⟩ := trod_fields ty53 h
  rw [c53] at hl
  obtain ⟨v0, v1, v2, v3, rfl⟩ := len4 hl
  obtain ⟨_, _, h0⟩ := hf 0 0 1 9 rfl
  obtain ⟨_, _, h1⟩ := hf 1 1 1 3 rfl
  obtain ⟨_, _, h2⟩ := hf 2 2 1 3 rfl
  obtain ⟨_, _, h3⟩ := hf 3 3 1 3 rfl
  rw [c9] at h0
  rw [c3] at h1 h2 h3
  obtain ⟨s0, rfl⟩ := trod_s h0
  obtain ⟨k1, rfl⟩ := trod_i h1
  obtain ⟨k2, rfl⟩ := trod_i h2
  obtain ⟨k3, rfl⟩ := trod_i h3
  exact ⟨⟨s0, k1, k2, k3⟩, by simp [PSym.cells, VRL, VR], trivial⟩
theorem elem54 {n : Nat} {cs : List Value} {x : DataW E × List MemPlace} (h : DataW.trod enc Tryz.prog w base spare held n 54 cs = some x) : ∃ p : RelP, VRL noRen p.cells cs ∧ True := by
  obtain ⟨xs, m, _, _, hl, hxl, hf⟩ := DataW.trod_array u54 h
  rw [c54] at hl
  obtain ⟨v0, v1, v2, rfl⟩ := len3 hl
  have h0 := hf 0 (by omega)
  have h1 := hf 1 (by omega)
  have h2 := hf 2 (by omega)
  rw [c3] at h0 h1 h2
  rw [List.getElem?_eq_getElem (by omega)] at h0 h1 h2
  obtain ⟨k1, rfl⟩ := trod_i (v := v0) h0
  obtain ⟨k2, rfl⟩ := trod_i (v := v1) h1
  obtain ⟨k3, rfl⟩ := trod_i (v := v2) h2
  exact ⟨⟨k1, k2, k3⟩, by simp [RelP.cells, VRL, VR], trivial⟩
theorem elem9 {n : Nat} {cs : List Value} {x : DataW E × List MemPlace} (h : DataW.trod enc Tryz.prog w base spare held n 9 cs = some x) : ∃ p : List UInt8, VRL noRen [.s p] cs ∧ True := by
  obtain ⟨s, rfl, _⟩ := DataW.trod_string u9 h
  exact ⟨s.data.toList, by simp [VRL, VR], trivial⟩
end
end Go.Proofs.YtnladombaepkkaaGreatDoor
