/- The abstract machine's operations are the model's: every operation that leaves the heap as it is. Conditions: none. -/
import Derived.Test.YtnladombaepkkaaGreatDoorAbs6
set_option linter.all false
namespace Go.Abs
open Go
section
variable {P : Program} {C : Cfg} {r : Ren} {H : Heap} {w : World}

theorem aparts_ok {ρ : Operand → Option AV} {σ : Operand → Value} (hρ : ∀ x v, ρ x = some v → VR r v (σ x)) : ∀ {l : List (Nat × Operand)} {m : List (Nat × AV)}, aparts ρ l = some m →
    (l.map fun p => (p.1, σ p.2)).map (·.1) = m.map (·.1) ∧ VRL r (m.map (·.2)) ((l.map fun p => (p.1, σ p.2)).map (·.2))
  | [], m, h => by simp only [aparts, Option.some.injEq] at h; subst h; simp [VRL]
  | x :: l, m, h => by
    simp only [aparts] at h
    split at h
    · rename_i a m' h1 h2
      cases h
      obtain ⟨i1, i2⟩ := aparts_ok hρ h2
      refine ⟨by simp [i1], ?_⟩
      simp only [List.map_cons, VRL]
      exact ⟨_, _, rfl, hρ _ _ h1, i2⟩
    · cases h

theorem noRen_le (r : Ren) : (noRen).le r := fun _ _ h => by cases h

theorem zero_ok (hC : COK P C) {t : TypeId} {i : TI} (h : C.T t = some i) : ∃ z, (zeroValue t).run P w = .ok z w ∧ VRL r i.zero z.cells.toList := by
  obtain ⟨x, hx, _, _, z, hz, hv⟩ := (hC.T t i h).info
  exact ⟨z, by simp [zeroValue, run_info hx, hz], VRL.mono (noRen_le r) _ _ hv⟩

theorem mapM_sizes (hC : COK P C) {fs : List (Nat × Nat × TypeId)} : ∀ (l : List Field) (g : List (Nat × Nat × TypeId)), l.map (fun f => (f.offset, f.type)) = g.map (fun x => (x.1, x.2.2)) →
    (∀ x ∈ g, (P.info? x.2.2).map (·.size) = some x.2.1) →
    (l.mapM fun f => (do pure (f.offset, ← sizeOf f.type) : Sem (Nat × Nat))).run P w = .ok (g.map fun x => (x.1, x.2.1)) w
  | [], g, h, _ => by
    cases g with
    | nil => rfl
    | cons => simp at h
  | f :: l, g, h, hs => by
    cases g with
    | nil => simp at h
    | cons x g =>
      simp only [List.map_cons, List.cons.injEq, Prod.mk.injEq] at h
      obtain ⟨⟨h1, h2⟩, h3⟩ := h
      have ih := mapM_sizes hC (fs := fs) l g h3 (fun y hy => hs y (List.mem_cons_of_mem _ hy))
      have hx := hs x (List.mem_cons_self ..)
      rw [← h2] at hx
      cases hi : P.info? f.type with
      | none => rw [hi] at hx; cases hx
      | some ti =>
        rw [hi] at hx
        simp only [Option.map_some, Option.some.injEq] at hx
        have hsz : (sizeOf f.type).run P w = .ok x.2.1 w := by simp [sizeOf, run_info hi, hx]
        simp only [List.mapM_cons, Sem.run_bind, hsz, Result.andThen_ok, Sem.run_pure, ih, List.map_cons, h1]

theorem abuild_ok (hC : COK P C) {ρ : Operand → Option AV} {σ : Operand → Value} (hρ : ∀ x v, ρ x = some v → VR r v (σ x)) {t : TypeId} {parts : Array (Nat × Operand)} {v : AV}
    (h : aval C H ρ (.build t parts) = some v) : ∃ c, (Instr.build t (parts.map fun (i, x) => (i, σ x))).run P w = .ok c w ∧ VR r v c := by
  simp only [aval] at h
  split at h
  · rename_i i ps hi hps
    obtain ⟨k1, k2⟩ := aparts_ok hρ hps
    obtain ⟨d, hd, hk⟩ := desc_of hC hi
    obtain ⟨z, hz, hzv⟩ := zero_ok (P := P) (r := r) (w := w) hC hi
    have hq : (parts.map fun (p : Nat × Operand) => (p.1, σ p.2)).toList = parts.toList.map fun p => (p.1, σ p.2) := by simp
    split at h
    · rename_i fs hfs
      rw [hfs] at hk
      obtain ⟨a, rfl, h1, h2⟩ := hk
      cases hf : afill (fun j => (fs[j]?).map fun x => (x.1, x.2.1)) i.zero ps with
      | none => rw [hf] at h; cases h
      | some l =>
        rw [hf] at h; cases h
        obtain ⟨y, hy1, hy2⟩ := afill_ok (r := r) k1 k2 hzv hf
        refine ⟨.agg y.toArray, ?_, by simp only [VR]; exact ⟨y, rfl, hy2⟩⟩
        have hm := mapM_sizes (P := P) (w := w) hC (fs := fs) a.toList fs h1 h2
        have hma : (a.mapM fun f => (do pure (f.offset, ← sizeOf f.type) : Sem (Nat × Nat))).run P w = .ok (fs.map fun x => (x.1, x.2.1)).toArray w := by
          rw [Array.mapM_eq_mapM_toList, Sem.run_map, hm]; rfl
        have hpl : (fun j : Nat => (fs.map fun x => (x.1, x.2.1)).toArray[j]?) = fun j : Nat => (fs[j]?).map fun (x : Nat × Nat × TypeId) => (x.1, x.2.1) := by
          funext j; simp
        unfold Instr.build
        simp only [Sem.run_bind, hz, Result.andThen_ok, run_under hd, hma, hpl, hq]
        rw [Array.toArray_toList] at hy1
        rw [hy1]
        rfl
    · rename_i n e hn
      rw [hn] at hk; simp only [KOK] at hk; subst hk
      split at h
      · rename_i ei he
        have ts := run_size (P := P) (w := w) (hC.T e ei he)
        cases hf : afill (fun j => some (j * ei.size, ei.size)) i.zero ps with
        | none => rw [hf] at h; cases h
        | some l =>
          rw [hf] at h; cases h
          obtain ⟨y, hy1, hy2⟩ := afill_ok (r := r) k1 k2 hzv hf
          refine ⟨.agg y.toArray, ?_, by simp only [VR]; exact ⟨y, rfl, hy2⟩⟩
          unfold Instr.build
          simp only [Sem.run_bind, hz, Result.andThen_ok, run_under hd, ts, hq]
          rw [Array.toArray_toList] at hy1
          rw [hy1]
          rfl
      · cases h
    · cases h
  · cases h

theorem amin_ok {lt : Bool} : ∀ {l : List AV} {y : List Value} {a : AV} {u : Value} {v : AV}, VR r a u → VRL r l y → amin lt a l = some v →
    (∃ c, (y.foldlM (if lt then Builtin.min2 else Builtin.max2) u).run P w = .ok c w ∧ VR r v c)
  | [], y, a, u, v, ha, hl, h => by
    simp only [VRL] at hl; subst hl
    cases a <;> simp only [amin, Option.some.injEq] at h <;> subst h <;> exact ⟨u, rfl, ha⟩
  | b :: l, y, a, u, v, ha, hl, h => by
    simp only [VRL] at hl
    obtain ⟨c, z, rfl, h1, h2⟩ := hl
    cases a <;> cases b <;> simp only [amin] at h <;> first | (cases h; done) | skip
    rename_i k x k' x'
    split at h
    · rename_i hk; subst hk
      simp only [VR] at ha h1; subst ha h1
      have := amin_ok (u := .int k (if lt then (if x' < x then x' else x) else (if x' > x then x' else x))) (VR.int _ _) h2 h
      cases lt
      · simpa [List.foldlM_cons, Builtin.max2] using this
      · simpa [List.foldlM_cons, Builtin.min2] using this
    · cases h

theorem alen_ok {t ty : TypeId} {a v : AV} {u : Value} {i : TI} (hC : COK P C) (ht : C.T t = some i) (hu : VR r a u) (h : alen a = some v)
    (hk : i.k = .string ∧ (∃ l, a = .s l) ∨ (∃ e, i.k = .slice e) ∧ ∀ l, a ≠ .s l) : ∃ c, (Builtin.len_ #[t] ty #[u]).run P w = .ok c w ∧ VR r v c := by
  obtain ⟨d, hd, hkk⟩ := desc_of hC ht
  rcases hk with ⟨hk, l, rfl⟩ | ⟨⟨e, hk⟩, hn⟩
  · rw [hk] at hkk; simp only [KOK] at hkk; subst hkk
    simp only [VR] at hu; subst hu
    simp only [alen, Option.some.injEq] at h; subst h
    exact ⟨.int .i64 l.length, by simp only [Builtin.len_, List.getElem?_toArray, List.getElem?_cons_zero, Sem.run_bind, run_under hd, Result.andThen_ok]; rfl, VR.int _ _⟩
  · rw [hk] at hkk; simp only [KOK] at hkk; subst hkk
    cases a <;> simp only [alen, Option.some.injEq] at h <;> first | (cases h; done) | skip
    all_goals subst h
    · exact absurd rfl (hn _)
    · simp only [VR] at hu; obtain ⟨_, _, _, _, rfl, _⟩ := hu
      exact ⟨_, by simp [Builtin.len_, run_under hd, goInt], VR.int _ _⟩
    · simp only [VR] at hu; subst hu
      exact ⟨_, by simp [Builtin.len_, run_under hd, goInt], VR.int _ _⟩
    · simp only [VR] at hu; obtain ⟨_, _, rfl⟩ := hu
      exact ⟨_, by simp [Builtin.len_, run_under hd, goInt], VR.int _ _⟩
end
end Go.Abs
