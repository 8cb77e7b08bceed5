/- The arguments of a law, and the tables of a program, as blocks of the abstract machine. Conditions: none. -/
import Derived.Test.YtnladombaepkkaaGreatDoorAbsD
import Derived.Deep.Slices
import Derived.OpenShut
import Derived.LaidSub
import Derived.Lib.LaidTab
import Derived.Carry
set_option linter.all false
namespace Go.Abs
open Go Go.ChangeShapes Go.WideShapes
theorem anys_ok {r : Ren} : ∀ {l : List Value}, (∀ v ∈ l, ∃ a, VR r a v) → ∃ m : List AV, VRL r m l
  | [], _ => ⟨[], by simp only [VRL]⟩
  | v :: l, h => by
    obtain ⟨a, ha⟩ := h v (List.mem_cons_self ..)
    obtain ⟨m, hm⟩ := anys_ok (l := l) fun u hu => h u (List.mem_cons_of_mem _ hu)
    exact ⟨a :: m, by simp only [VRL]; exact ⟨v, l, rfl, ha, hm⟩⟩
theorem any_ok (r : Ren) : ∀ (n : Nat) (v : Value), SizeOf.sizeOf v < n → ∃ a : AV, VR r a v
  | 0, _, h => absurd h (Nat.not_lt_zero _)
  | n + 1, v, h => by
    by_cases hv : ∃ x, v = .agg x
    · obtain ⟨x, rfl⟩ := hv
      obtain ⟨m, hm⟩ := anys_ok (r := r) (l := x.toList) fun u hu => any_ok r n u (by
        have h1 : SizeOf.sizeOf u < SizeOf.sizeOf x := Array.sizeOf_lt_of_mem (by simpa using hu)
        have h2 : SizeOf.sizeOf (Value.agg x) = 1 + SizeOf.sizeOf x := by simp
        omega)
      exact ⟨.ag m, by simp only [VR]; exact ⟨x.toList, by simp, hm⟩⟩
    · exact ⟨.raw, by simp only [VR]; intro x hx; exact hv ⟨x, hx⟩⟩
theorem alls_ok (r : Ren) (l : List Value) : ∃ m : List AV, VRL r m l := anys_ok fun v _ => any_ok r (SizeOf.sizeOf v + 1) v (Nat.lt_succ_self _)
/-- Where one cell is, there is a block. -/
theorem blk_of_cell {w : World} {c o : Nat} {s} {v : Value} (h : w.cell? ⟨c, o, s⟩ = some v) : s = none ∧ ∃ (arr : Array Value) (el : TypeId) (fz : Nat × Nat), w.heap[c]? = some (.cells arr el fz) ∧ arr[o]? = some v := by
  unfold World.cell? at h
  split at h
  · rename_i arr el fz hb
    cases s with
    | none => exact ⟨rfl, arr, el, fz, hb, by simpa using h⟩
    | some x => simp at h
  · cases h
/-- A block that may only be read, from its cells behind some place. -/
theorem br_of_cells {w : World} {c o : Nat} {l : List Value} {m : List AV} (hl : 0 < l.length) (h : ∀ i, i < l.length → w.cell? ⟨c, o + i, none⟩ = l[i]?) (hm : VRL noRen m l) :
    ∃ pre : List AV, pre.length = o ∧ c < w.heap.size ∧ ∀ r, BR r ⟨pre ++ m, false⟩ c 0 w := by
  have h0 := h 0 hl
  rw [List.getElem?_eq_getElem hl] at h0
  obtain ⟨_, arr, el, fz, hb, ha⟩ := blk_of_cell h0
  have hsz : ∀ i, i < l.length → arr[o + i]? = l[i]? := by
    intro i hi
    have := h i hi
    simpa [World.cell?, hb] using this
  have hlen : o + l.length ≤ arr.size := by
    have := hsz (l.length - 1) (by omega)
    rw [List.getElem?_eq_getElem (by omega)] at this
    have := (Array.getElem?_eq_some_iff.1 this).1
    omega
  obtain ⟨pre, hpre⟩ := alls_ok noRen (arr.toList.take o)
  have hc : c < w.heap.size := by
    have := (Array.getElem?_eq_some_iff.1 hb).1
    exact this
  refine ⟨pre, by rw [← hpre.length]; simp; omega, hc, fun r => ⟨arr.toList, el, fz, by simpa using hb, Nat.zero_le _, .inr rfl, arr.toList.take o ++ l, arr.toList.drop (o + l.length), ?_, VRL.append (VRL.mono (fun _ _ h => by cases h) _ _ hpre) (VRL.mono (fun _ _ h => by cases h) _ _ hm)⟩⟩
  apply List.ext_getElem?
  intro i
  by_cases h1 : i < o
  · rw [List.append_assoc, List.getElem?_append_left (by simp; omega)]
    simp [h1]
  · by_cases h2 : i < o + l.length
    · rw [List.getElem?_append_left (by simp; omega), List.getElem?_append_right (by simp; omega)]
      have := hsz (i - o) (by omega)
      rw [show o + (i - o) = i by omega] at this
      simp only [List.length_take, Array.length_toList, Nat.min_eq_left (show o ≤ arr.size by omega)]
      rw [← this]; simp
    · rw [List.getElem?_append_right (by simp; omega)]
      simp only [List.length_append, List.length_take, Array.length_toList, Nat.min_eq_left (show o ≤ arr.size by omega), List.getElem?_drop]
      congr 1
      omega
section
variable {H : Type} {enc : TypeId × Value → H} {P : Program} {w : World}
/-- A slice of elements that are known: nil, empty, or a block that may only be read. -/
theorem flat_at {α : Type} {f : α → List AV} {sz : Nat} (hf : ∀ p, (f p).length = sz) : ∀ (ps : List α), (ps.map f).flatten.length = ps.length * sz
  | [] => by simp
  | p :: ps => by
    have := flat_at hf ps
    simp [hf, this, Nat.add_mul]; omega
theorem VRL_flat {α : Type} {f : α → List AV} {r : Ren} : ∀ {ps : List α} {cs : List (List Value)}, ps.length = cs.length → (∀ i (h1 : i < ps.length) (h2 : i < cs.length), VRL r (f ps[i]) cs[i]) → VRL r (ps.map f).flatten cs.flatten
  | [], [], _, _ => by simp [VRL]
  | p :: ps, c :: cs, hl, h => by
    simp only [List.map_cons, List.flatten_cons]
    exact VRL.append (h 0 (by simp) (by simp)) (VRL_flat (by simpa using hl) fun i h1 h2 => h (i + 1) (by simpa using h1) (by simpa using h2))
theorem open_arg {α : Type} [Inhabited α] {t e : TypeId} {sz : Nat} (cellsOf : α → List AV) (ok : α → Prop) (ht : P.underlying t = some (.slice e)) (hsz : P.cellsOf e = sz) (hpos : 0 < sz) (hcl : ∀ p, (cellsOf p).length = sz)
    (elem : ∀ (n : Nat) (cs : List Value) (x : DataW H × List MemPlace), DataW.trod enc P w 0 (fun _ => true) true n e cs = some x → ∃ p : α, VRL noRen (cellsOf p) cs ∧ ok p)
    {n : Nat} {cs : List Value} {x : DataW H × List MemPlace} (h : DataW.trod enc P w 0 (fun _ => true) true n t cs = some x) :
    ∃ ps : List α, (∀ p ∈ ps, ok p) ∧ ((ps = [] ∧ (cs = [.slice none 0 0] ∨ ∃ a k, cs = [.slice (some a) 0 k])) ∨
      ∃ (c o cap : Nat) (pre : List AV), cs = [.slice (some ⟨c, o, none⟩) ps.length cap] ∧ pre.length = o ∧ c < w.heap.size ∧ ∀ r, BR r ⟨pre ++ (ps.map cellsOf).flatten, false⟩ c 0 w) := by
  rcases Deep.open_slice ht h with ⟨rfl, rfl⟩ | ⟨a, len, cap, m, n', D, Pl, rfl, _, hlc, _, hm, _, hx⟩
  · exact ⟨[], by simp, .inl ⟨rfl, .inl rfl⟩⟩
  rw [hsz] at hx
  have hlm : len ≤ m := by rw [hm]; split <;> omega
  by_cases h0 : len = 0
  · subst h0; exact ⟨[], by simp, .inl ⟨rfl, .inr ⟨a, cap, rfl⟩⟩⟩
  obtain ⟨CS, hCS⟩ := Deep.choose_lt (α := List Value) (n := len) (p := fun i cs' => w.cells? 0 (a.add (i * sz)) sz = some cs' ∧ DataW.trod enc P w 0 (fun _ => true) true n' e cs' = some (D i, Pl i)) (fun i hi => hx i (by omega))
  obtain ⟨Q, hQ⟩ := Deep.choose_lt (α := α) (n := len) (p := fun i p => VRL noRen (cellsOf p) (CS i) ∧ ok p) (fun i hi => elem _ _ _ (hCS i hi).2)
  have hcell : ∀ i, i < len → (CS i).length = sz ∧ ∀ j, j < sz → w.cell? ((a.add (i * sz)).add j) = (CS i)[j]? := fun i hi => by
    obtain ⟨_, h1, h2⟩ := World.cells?_some (hCS i hi).1
    exact ⟨h1, h2⟩
  obtain ⟨c, o, s⟩ := a
  have hs : s = none := by
    have h1 := (hcell 0 (by omega)).2 0 hpos
    have h2 := (hcell 0 (by omega)).1
    rw [List.getElem?_eq_getElem (by omega)] at h1
    simp only [Nat.zero_mul, Addr.add, if_true] at h1
    exact (blk_of_cell h1).1
  subst hs
  have hpl : ((List.range len).map Q).length = len := by simp
  have hfl : (((List.range len).map CS).flatten).length = len * sz := by
    have : ∀ (k : Nat), k ≤ len → (((List.range k).map CS).flatten).length = k * sz := by
      intro k
      induction k with
      | zero => intro _; simp
      | succ k ih => intro hk; rw [List.range_succ, List.map_append, List.flatten_append, List.length_append, ih (by omega)]; simp [(hcell k (by omega)).1, Nat.add_mul]
    exact this len (Nat.le_refl _)
  have hvr : VRL noRen (((List.range len).map Q).map cellsOf).flatten ((List.range len).map CS).flatten := by
    refine VRL_flat (by simp) fun i h1 h2 => ?_
    simp at h1 h2 ⊢
    exact (hQ i h1).1
  have hcells : ∀ i, i < (((List.range len).map CS).flatten).length → w.cell? ⟨c, o + i, none⟩ = (((List.range len).map CS).flatten)[i]? := by
    intro i hi
    rw [hfl] at hi
    have hq : i / sz < len := Nat.div_lt_of_lt_mul (by rw [Nat.mul_comm]; exact hi)
    have hr := Nat.mod_lt i hpos
    have h1 := (hcell (i / sz) hq).2 (i % sz) hr
    have hle : ∀ c' ∈ (List.range len).map (fun i => (CS i)), c'.length = sz := by
      intro c' hc'; simp only [List.mem_map, List.mem_range] at hc'; obtain ⟨j, hj, rfl⟩ := hc'; exact (hcell j hj).1
    have h2 : ((List.range len).map CS).flatten[i]? = (CS (i / sz))[i % sz]? := by
      have : ∀ {ls : List (List Value)}, (∀ c' ∈ ls, c'.length = sz) → ∀ (q : Nat) (hq : q < ls.length) (r : Nat), r < sz → ls.flatten[q * sz + r]? = ls[q][r]? := by
        intro ls
        induction ls with
        | nil => intro _ q hq; simp at hq
        | cons l ls ih =>
          intro hl q hq r hr
          have hl0 := hl l (List.mem_cons_self ..)
          cases q with
          | zero => simp only [List.flatten_cons, Nat.zero_mul, Nat.zero_add]; rw [List.getElem?_append_left (by omega)]; rfl
          | succ q =>
            simp only [List.flatten_cons]
            rw [List.getElem?_append_right (by rw [hl0, Nat.add_mul]; omega), hl0, show (q + 1) * sz + r - sz = q * sz + r by rw [Nat.add_mul]; omega]
            simpa using ih (fun c hc => hl c (List.mem_cons_of_mem _ hc)) q (by simpa using hq) r hr
      have h3 := this hle (i / sz) (by simpa using hq) (i % sz) hr
      rw [Nat.mul_comm, Nat.div_add_mod] at h3
      rw [h3]; simp
    rw [h2, ← h1, Deep.add_add, Nat.mul_comm, Nat.div_add_mod]
    unfold Addr.add
    by_cases hi0 : i = 0
    · subst hi0; rfl
    · rw [if_neg hi0]
  obtain ⟨pre, p1, p2, p3⟩ := br_of_cells (c := c) (o := o) (w := w) (l := ((List.range len).map CS).flatten) (by rw [hfl]; exact Nat.mul_pos (by omega) hpos) hcells hvr
  refine ⟨(List.range len).map Q, ?_, .inr ⟨c, o, cap, pre, by rw [hpl], p1, p2, p3⟩⟩
  intro p hp
  simp only [List.mem_map, List.mem_range] at hp
  obtain ⟨i, hi, rfl⟩ := hp
  exact (hQ i hi).2
end
end Go.Abs
