/- The abstract machine's operations are the model's: the theorem on those that leave the heap as it is. Conditions: none. -/
import Derived.Test.YtnladombaepkkaaGreatDoorAbs7
set_option linter.all false
namespace Go.Abs
open Go
section
variable {P : Program} {C : Cfg} {r : Ren} {H : Heap} {w : World}

theorem opt_ok {ρ : Operand → Option AV} {σ : Operand → Value} (hρ : ∀ x v, ρ x = some v → VR r v (σ x)) {lo : Option Operand} {l : Option AV}
    (h : (match lo with | none => some none | some l => (ρ l).map some) = some l) : (∀ a, l = some a → ∃ c, lo.map σ = some c ∧ VR r a c) ∧ (l = none → lo.map σ = none) := by
  cases lo with
  | none => simp only [Option.some.injEq] at h; subst h; exact ⟨fun a h => (by cases h), fun _ => rfl⟩
  | some x =>
    simp only [Option.map_eq_some_iff] at h
    obtain ⟨a, h1, rfl⟩ := h
    exact ⟨fun b hb => by cases hb; exact ⟨σ x, rfl, hρ _ _ h1⟩, fun h => by cases h⟩

theorem vrun {s : Sem Value} {v : AV} (h : ∃ c, s.run P w = .ok c w ∧ VR r v c) : ∃ c, (do pure (.value (← s)) : Sem Next).run P w = .ok (.value c) w ∧ VR r v c := by
  obtain ⟨c, h1, h2⟩ := h
  exact ⟨c, by simp only [Sem.run_bind, h1, Result.andThen_ok, Sem.run_pure], h2⟩

theorem aval_ok (hC : COK P C) (s : Sim P r H w) {ρ : Operand → Option AV} {σ : Operand → Value} (hρ : ∀ x v, ρ x = some v → VR r v (σ x)) (o : Oper) {v : AV}
    (h : aval C H ρ o.op = some v) : ∃ c, (execOp σ o).run P w = .ok (.value c) w ∧ VR r v c := by
  obtain ⟨dst, op, type, pos, after, guard⟩ := o
  cases op with
  | move x => exact ⟨σ x, rfl, hρ _ _ h⟩
  | assign x => exact ⟨σ x, rfl, hρ _ _ h⟩
  | pick c a b =>
    simp only [aval] at h
    split at h
    · rename_i t ht
      have := hρ _ _ ht
      simp only [VR] at this
      simp only [execOp, this, asBool, Sem.run_bind, Sem.run_pure, Result.andThen_ok]
      cases t
      · exact ⟨σ b, rfl, hρ _ _ h⟩
      · exact ⟨σ a, rfl, hρ _ _ h⟩
    · cases h
  | build t parts => exact vrun (abuild_ok hC hρ h)
  | load t a =>
    simp only [aval] at h
    split at h
    · rename_i b o hb
      exact vrun (aload_ok hC s (hρ _ _ hb) h)
    · cases h
  | nilCheck x =>
    simp only [aval] at h
    split at h
    · rename_i b o hb
      cases h
      have := hρ _ _ hb
      have hv := this
      simp only [VR] at this
      obtain ⟨c, e, _, h2⟩ := this
      exact ⟨σ x, by simp only [execOp, h2]; rfl, hv⟩
    · rename_i f fi ca hb
      cases h
      have := hρ _ _ hb
      have hv := this
      simp only [VR] at this
      obtain ⟨c, e, h2, _⟩ := this
      exact ⟨σ x, by simp only [execOp, h2]; rfl, hv⟩
    · cases h
  | binOp op t x y yt =>
    simp only [aval] at h
    split at h
    · rename_i l m ha hb
      exact vrun (aeqA_ok hC (hρ _ _ ha) (hρ _ _ hb) h)
    · rename_i a b _ ha hb
      simp only [Bool.cond_eq_ite] at h
      split at h
      · cases h
      · rename_i hq
        refine vrun (abinop_ok hC (hρ _ _ ha) (hρ _ _ hb) h fun he => ?_)
        simpa [he] using hq
    · cases h
  | unOp op t x =>
    simp only [aval] at h
    split at h
    · rename_i a ha
      exact vrun (aun_ok (hρ _ _ ha) h)
    · cases h
  | convert a b x =>
    simp only [aval] at h
    split at h
    · rename_i a ha
      exact vrun (aconv_ok hC s (hρ _ _ ha) h)
    · cases h
  | slice t x lo hi mx =>
    cases mx with
    | some m => simp [aval] at h
    | none =>
      simp only [aval] at h
      split at h
      · rename_i a l hh ha hl hhh
        obtain ⟨l1, l2⟩ := opt_ok hρ hl
        obtain ⟨h1, h2⟩ := opt_ok hρ hhh
        exact vrun (aslice_ok hC (hρ _ _ ha) l1 l2 h1 h2 h)
      · cases h
  | fieldAddr t x f =>
    simp only [aval] at h
    split at h
    · rename_i a ha
      exact vrun (afield_ok hC (hρ _ _ ha) h)
    · cases h
  | field t x f =>
    simp only [aval] at h
    split at h
    · rename_i cs fs _ _ _ ha hT
      split at h
      · rename_i off sz ft hf
        have hv := hρ _ _ ha
        simp only [VR] at hv
        obtain ⟨y, hy, hyv⟩ := hv
        obtain ⟨c, hc, hcv⟩ := apart_ok (P := P) (w := w) hC hyv h
        obtain ⟨d, hd, a, rfl, h1, h2⟩ := desc_of hC hT
        have hk : (a.toList.map (fun f => (f.offset, f.type)))[f]? = some (off, ft) := by rw [h1, List.getElem?_map, hf]; rfl
        rw [List.getElem?_map] at hk
        cases hfa : a.toList[f]? with
        | none => rw [hfa] at hk; cases hk
        | some fl =>
          rw [hfa] at hk
          simp only [Option.map_some, Option.some.injEq, Prod.mk.injEq] at hk
          obtain ⟨rfl, rfl⟩ := hk
          have hfa' : a[f]? = some fl := by simpa using hfa
          refine vrun ⟨c, ?_, hcv⟩
          simp only [Instr.field, Sem.run_bind, run_under hd, Result.andThen_ok, hfa', hy, asAgg, Sem.run_pure, hc]
      · cases h
    · cases h
  | indexAddr t x i =>
    simp only [aval] at h
    split at h
    · rename_i a n ha hn
      exact vrun (aidx_ok hC (hρ _ _ ha) (hρ _ _ hn) h)
    · cases h
  | index t x i =>
    simp only [aval] at h
    split at h
    · rename_i a n ha hn
      exact vrun (aindex_ok hC (hρ _ _ ha) (hρ _ _ hn) h)
    · cases h
  | extract x i =>
    simp only [aval] at h
    split at h
    · rename_i l hl
      have hv := hρ _ _ hl
      simp only [VR] at hv
      obtain ⟨y, hy, hyv⟩ := hv
      obtain ⟨c, hc, hcv⟩ := hyv.get h
      refine vrun ⟨c, ?_, hcv⟩
      simp [hy, Instr.extract, hc]
    · cases h
  | makeFunc f fi ca =>
    simp only [aval] at h
    split at h
    · rename_i x y hx hy
      cases h
      refine vrun ⟨.func f (fi.map σ) (ca.map σ), rfl, ?_⟩
      simp only [VR]
      exact ⟨fi.toList.map σ, ca.toList.map σ, by rw [← Array.toList_map, ← Array.toList_map, Array.toArray_toList, Array.toArray_toList], aevs_ok hρ hx, aevs_ok hρ hy⟩
    · cases h
  | call c =>
    obtain ⟨callee, args, argTypes⟩ := c
    simp only [aval] at h
    have hex : ∀ b, callee = .builtin b → (execOp σ ⟨dst, .call ⟨callee, args, argTypes⟩, type, pos, after, guard⟩).run P w =
        (builtin b argTypes type (args.map fun | .const _ => true | _ => false) (args.map σ)).run P w := by
      rintro b rfl; rfl
    split at h
    · rw [hex _ rfl]
      have hat : ∀ i, (argTypes[0]?).bind C.T = some i → ∃ t, argTypes[0]? = some t ∧ C.T t = some i := by
        intro i hi
        cases ha : argTypes[0]? with
        | none => rw [ha] at hi; cases hi
        | some t => rw [ha] at hi; exact ⟨t, rfl, hi⟩
      have len : ∀ a i, aevs ρ args.toList = some [a] → (argTypes[0]?).bind C.T = some i → alen a = some v →
          (i.k = .string ∧ (∃ l, a = .s l) ∨ (∃ e, i.k = .slice e) ∧ ∀ l, a ≠ .s l) →
          ∃ c, (builtin .len argTypes type (args.map fun | .const _ => true | _ => false) (args.map σ)).run P w = .ok (.value c) w ∧ VR r v c := by
        intro a i hargs hti hlen hkk
        obtain ⟨t, ht1, ht2⟩ := hat i hti
        have hv := aevs_ok hρ hargs
        simp only [VRL] at hv
        obtain ⟨u, y, hy, huv, rfl⟩ := hv
        obtain ⟨c, hc, hcv⟩ := alen_ok (P := P) (w := w) (ty := type) hC ht2 huv hlen hkk
        refine vrun ⟨c, ?_, hcv⟩
        have e1 : (args.map σ) = #[u] := by
          apply Array.toList_inj.1
          simpa using hy
        rw [← hc]
        simp only [Builtin.len_, e1, ht1]
        rfl
      split at h
      · rename_i hargs hti; obtain ⟨h1, h2⟩ := alenT_alen h; exact len _ _ hargs hti h1 h2
      · cases h
    · rw [hex _ rfl]
      split at h
      · rename_i a l hargs
        have hv := aevs_ok hρ hargs
        simp only [VRL] at hv
        obtain ⟨u, y, hy, huv, hyv⟩ := hv
        obtain ⟨c, hc, hcv⟩ := amin_ok (P := P) (w := w) huv hyv h
        refine vrun ⟨c, ?_, hcv⟩
        have e1 : (args.map σ).toList = u :: y := by simpa using hy
        simp only [Builtin.min_, e1]
        simpa using hc
      · cases h
    · rw [hex _ rfl]
      split at h
      · rename_i a l hargs
        have hv := aevs_ok hρ hargs
        simp only [VRL] at hv
        obtain ⟨u, y, hy, huv, hyv⟩ := hv
        obtain ⟨c, hc, hcv⟩ := amin_ok (P := P) (w := w) huv hyv h
        refine vrun ⟨c, ?_, hcv⟩
        have e1 : (args.map σ).toList = u :: y := by simpa using hy
        simp only [Builtin.max_, e1]
        simpa using hc
      · cases h
    · cases h
  | _ => simp [aval] at h
end
end Go.Abs
