/- The abstract machine's heap and the model's: stores, new blocks, blocks that grow. Conditions: none. -/
import Derived.Test.YtnladombaepkkaaGreatDoorAbs8
set_option linter.all false
namespace Go.Abs
open Go
section
variable {P : Program} {C : Cfg} {r : Ren} {H : Heap} {w : World}

theorem heap_setCell (w : World) (c o : Nat) (v : Value) (cur : List Value) (el : TypeId) (fz : Nat × Nat) (h : w.heap[c]? = some (.cells cur.toArray el fz)) :
    (w.setCell ⟨c, o, none⟩ v).heap[c]? = some (.cells (cur.set o v).toArray el fz) := by
  obtain ⟨hlt, hget⟩ := Array.getElem?_eq_some_iff.1 h
  simp only [World.setCell, Array.getElem?_modify, if_true, h, Option.map_some]
  simp

theorem heap_setCell_ne (w : World) (a : Addr) (k : Nat) (v : Value) (h : k ≠ a.block) : (w.setCell a v).heap[k]? = w.heap[k]? := by
  simp only [World.setCell, Array.getElem?_modify]
  rw [if_neg (fun e => h e.symm)]

theorem storeCells_ok (c o : Nat) (el : TypeId) (fz : Nat × Nat) : ∀ (vs : List Value) (i : Nat) (cur : List Value) (w : World),
    w.heap[c]? = some (.cells cur.toArray el fz) → o + i + vs.length ≤ cur.length → (∀ v ∈ vs, v.oneCell' = true) → (∀ j, j < cur.length → (fz.1 ≤ j && j < fz.2) = false) →
    ∃ w', (storeCells ⟨c, o, none⟩ vs i).run P w = .ok () w' ∧ w'.heap[c]? = some (.cells (cur.take (o + i) ++ vs ++ cur.drop (o + i + vs.length)).toArray el fz) ∧
      w'.heap.size = w.heap.size ∧ (∀ k, k ≠ c → w'.heap[k]? = w.heap[k]?) ∧ w'.tape = w.tape ∧ w'.os = w.os ∧ w'.output = w.output
  | [], i, cur, w, h, _, _, _ => ⟨w, rfl, by simpa using h, rfl, fun _ _ => rfl, rfl, rfl, rfl⟩
  | v :: vs, i, cur, w, h, hl, h1, hf => by
    simp only [List.length_cons] at hl
    have hadd : ((⟨c, o, none⟩ : Addr).add i) = ⟨c, o + i, none⟩ := addr_add c o i
    have hcell : w.cell? ⟨c, o + i, none⟩ = some cur[o + i] := by
      simp only [World.cell?, h]
      simp
    have hfz : w.frozen? ⟨c, o + i, none⟩ = false := by
      simp only [World.frozen?, h]
      exact hf _ (by omega)
    have hst : (store ((⟨c, o, none⟩ : Addr).add i) v).run P w = .ok () (w.setCell ⟨c, o + i, none⟩ v) := by
      rw [hadd, run_store P w _ v _ (h1 v (List.mem_cons_self ..)), hcell]
      simp [hfz]
    obtain ⟨w', e1, e2, e3, e4, e5, e6, e7⟩ := storeCells_ok c o el fz vs (i + 1) (cur.set (o + i) v) (w.setCell ⟨c, o + i, none⟩ v) (heap_setCell w c (o + i) v cur el fz h) (by simp; omega)
      (fun u hu => h1 u (List.mem_cons_of_mem _ hu)) (by simpa using hf)
    refine ⟨w', ?_, ?_, e3.trans (by simp), fun k hk => (e4 k hk).trans (heap_setCell_ne w _ k v hk), e5, e6, e7⟩
    · simp only [storeCells, Sem.run_bind, hst, Result.andThen_ok, e1]
    · rw [e2]
      congr 3
      simp only [List.length_cons]
      apply List.ext_getElem?
      intro n
      simp only [List.getElem?_append, List.length_append, List.length_take, List.length_set, List.getElem?_take, List.getElem?_drop, List.getElem?_set, List.length_cons, List.getElem?_cons]
      grind

/-- A written block. -/
theorem Sim.write (s : Sim P r H w) {b c e : Nat} {B B' : Blk} (hb : H.get b = some B) (hw : B.wr = true) (hr : r b = some (c, e)) {w' : World} (hsz : w'.heap.size = w.heap.size)
    (ho : ∀ k, k ≠ c → w'.heap[k]? = w.heap[k]?) (hB : BR r B' c e w') (ht : w'.tape = w.tape) (hos : w'.os = w.os) (hout : w'.output = w.output) :
    Sim P r (H.set b B') w' ∧ Ext r H w r (H.set b B') w' := by
  refine ⟨⟨?_, ?_, ?_, s.glb⟩, ⟨fun _ _ => rfl, by simp, by omega, ?_, ?_, ht, hos, hout⟩⟩
  · intro b1 B1 c1 e1 h1 h2
    rw [Heap.get_set hb] at h1
    by_cases hbb : b = b1
    · subst hbb; rw [if_pos rfl] at h1; cases h1; rw [hr] at h2; cases h2; exact hB
    · rw [if_neg hbb] at h1
      have hne : c1 ≠ c := fun he => by subst he; exact hbb (s.inj b B b1 B1 c1 e e1 hb hw h1 hr h2)
      exact (s.blk b1 B1 c1 e1 h1 h2).mono (fun _ _ h => h) (ho c1 hne)
  · intro b1 B1 b2 B2 c1 e1 e2 h1 hw1 h2 q1 q2
    rw [Heap.get_set hb] at h1 h2
    have g1 : ∃ B1', H.get b1 = some B1' ∧ (B1'.wr = true ∨ b1 = b) := by
      by_cases hbb : b = b1
      · subst hbb; exact ⟨B, hb, .inr rfl⟩
      · rw [if_neg hbb] at h1; exact ⟨B1, h1, .inl hw1⟩
    have g2 : ∃ B2', H.get b2 = some B2' := by
      by_cases hbb : b = b2
      · subst hbb; exact ⟨B, hb⟩
      · rw [if_neg hbb] at h2; exact ⟨B2, h2⟩
    obtain ⟨B1', k1, k2⟩ := g1
    obtain ⟨B2', k3⟩ := g2
    have k4 : B1'.wr = true := by
      rcases k2 with k2 | rfl
      · exact k2
      · rw [hb] at k1; cases k1; exact hw
    exact s.inj b1 B1' b2 B2' c1 e1 e2 k1 k4 k3 q1 q2
  · intro b1 c1 e1 h1
    have := s.dom b1 c1 e1 h1
    simp; omega
  · intro k _ hk
    exact ho k (fun he => hk ⟨b, B, e, hb, hw, by rw [he]; exact hr⟩)
  · rintro k _ ⟨b1, B1, e1, h1, h2, h3⟩
    rw [Heap.get_set hb] at h1
    by_cases hbb : b = b1
    · subst hbb; exact ⟨b, B, e1, hb, hw, h3⟩
    · rw [if_neg hbb] at h1; exact ⟨b1, B1, e1, h1, h2, h3⟩

/-- Less is known of the heap. -/
theorem Sim.weaken (s : Sim P r H w) {H' : Heap} (hn : H'.next = H.next) (hg : ∀ b B, H'.get b = some B → H.get b = some B) : Sim P r H' w :=
  ⟨fun b B c e h => s.blk b B c e (hg b B h), fun b B b' B' c e e' h hw h' => s.inj b B b' B' c e e' (hg b B h) hw (hg b' B' h'), fun b c e h => by rw [hn]; exact s.dom b c e h, s.glb⟩
theorem Ext.weaken {r' : Ren} {H' : Heap} {w' : World} (x : Ext r H w r' H' w') {H'' : Heap} (hn : H''.next = H'.next) (hg : ∀ b B, H''.get b = some B → H'.get b = some B) : Ext r H w r' H'' w' :=
  ⟨x.ren, by rw [hn]; exact x.next, x.size, x.keep, fun c hc ⟨b, B, e, h1, h2, h3⟩ => x.wrs c hc ⟨b, B, e, hg b B h1, h2, h3⟩, x.tape, x.os, x.output⟩

/-- A block that grew in its place. -/
theorem Sim.turn (s : Sim P r H w) {b c e : Nat} {B B' : Blk} (hb : H.get b = some B) (hw : B.wr = true) (hr : r b = some (c, e)) {w' : World} (hsz : w'.heap.size = w.heap.size)
    (ho : ∀ k, k ≠ c → w'.heap[k]? = w.heap[k]?) (hB : BR r B' c e w') (ht : w'.tape = w.tape) (hos : w'.os = w.os) (hout : w'.output = w.output) :
    Sim P (upd r H.next (c, e)) (H.turn b B') w' ∧ Ext r H w (upd r H.next (c, e)) (H.turn b B') w' := by
  have hnone : r H.next = none := by
    cases h : r H.next with
    | none => rfl
    | some x => exact absurd (s.dom _ x.1 x.2 h).1 (Nat.lt_irrefl _)
  have hle : r.le (upd r H.next (c, e)) := fun k x h => by
    unfold upd
    rw [if_neg (fun e => by subst e; rw [hnone] at h; cases h)]; exact h
  have hbn : b < H.next := (s.dom b c e hr).1
  have old : ∀ {b1 B1 c1 e1}, (H.turn b B').get b1 = some B1 → upd r H.next (c, e) b1 = some (c1, e1) → (b1 = H.next ∧ B1 = B' ∧ c1 = c ∧ e1 = e) ∨ (b1 ≠ b ∧ b1 ≠ H.next ∧ H.get b1 = some B1 ∧ r b1 = some (c1, e1)) := by
    intro b1 B1 c1 e1 h1 h2
    rw [Heap.get_turn] at h1
    unfold upd at h2
    by_cases h3 : H.next = b1
    · rw [if_pos h3] at h1; rw [if_pos h3.symm] at h2; cases h1; cases h2; exact .inl ⟨h3.symm, rfl, rfl, rfl⟩
    · rw [if_neg h3] at h1; rw [if_neg (fun e => h3 e.symm)] at h2
      by_cases h4 : b = b1
      · rw [if_pos h4] at h1; cases h1
      · rw [if_neg h4] at h1; exact .inr ⟨fun e => h4 e.symm, fun e => h3 e.symm, h1, h2⟩
  refine ⟨⟨?_, ?_, ?_, ?_⟩, ⟨?_, by simp, by omega, ?_, ?_, ht, hos, hout⟩⟩
  · intro b1 B1 c1 e1 h1 h2
    rcases old h1 h2 with ⟨rfl, rfl, rfl, rfl⟩ | ⟨n1, _, h3, h4⟩
    · exact hB.mono hle rfl
    · have hne : c1 ≠ c := fun he => by subst he; exact n1 (s.inj b B b1 B1 c1 e e1 hb hw h3 hr h4).symm
      exact (s.blk b1 B1 c1 e1 h3 h4).mono hle (ho c1 hne)
  · intro b1 B1 b2 B2 c1 e1 e2 h1 hw1 h2 q1 q2
    rcases old h1 q1 with ⟨rfl, rfl, rfl, rfl⟩ | ⟨n1, _, h3, h4⟩ <;> rcases old h2 q2 with ⟨rfl, rfl, h9, rfl⟩ | ⟨n2, _, h5, h6⟩
    · rfl
    · exact absurd (s.inj b B b2 B2 _ _ _ hb hw h5 hr h6).symm n2
    · subst h9; exact absurd (s.inj b B b1 B1 _ _ _ hb hw h3 hr h4).symm n1
    · exact s.inj b1 B1 b2 B2 c1 e1 e2 h3 hw1 h5 h4 h6
  · intro b1 c1 e1 h1
    unfold upd at h1
    by_cases h3 : b1 = H.next
    · rw [if_pos h3] at h1; cases h1; have := s.dom b c e hr; simp; omega
    · rw [if_neg h3] at h1; have := s.dom b1 c1 e1 h1; simp; omega
  · intro g hg
    obtain ⟨x, hx⟩ := s.glb g hg
    exact ⟨x, hle _ _ hx⟩
  · intro k hk; unfold upd; rw [if_neg (by omega)]
  · intro k _ hk
    exact ho k (fun he => hk ⟨b, B, e, hb, hw, by rw [he]; exact hr⟩)
  · rintro k _ ⟨b1, B1, e1, h1, h2, h3⟩
    rcases old h1 h3 with ⟨rfl, rfl, rfl, rfl⟩ | ⟨_, _, h4, h5⟩
    · exact ⟨b, B, e1, hb, hw, hr⟩
    · exact ⟨b1, B1, e1, h4, h2, h5⟩
end
end Go.Abs
