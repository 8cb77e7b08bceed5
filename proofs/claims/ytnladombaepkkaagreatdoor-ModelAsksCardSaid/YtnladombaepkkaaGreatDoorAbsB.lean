/- The abstract machine's heap and the model's: stores, new blocks, blocks that grow. Conditions: none. The abstract machine's operations are the model's: those that make or change memory. Conditions: none. The abstract machine's operations are the model's: slices made, stores, appends. Conditions: none. The abstract machine's operations are the model's: append. Conditions: none. The abstract machine: calls, code, and that what it answers is what the model answers (regions in the text's order). Conditions: none. The abstract machine: an operation hangs on its operands alone; new blocks disturb nothing. Conditions: none. The abstract machine: regions that draw their order, what is asked of them. Conditions: none. The abstract machine: a region that draws its order is answered as in one order, in whatever order the model takes. Conditions: none. -/
import Derived.Test.YtnladombaepkkaaGreatDoorAbsA
import Derived.LoopN
import Derived.Scope
set_option linter.all false
namespace Go.Abs
open Go
section
variable {P : Program} {C : Cfg} {r : Ren} {H : Heap} {w : World}

theorem heap_setCell (w : World) (c o : Nat) (v : Value) (cur : List Value) (el : TypeId) (fz : Nat × Nat) (h : w.heap[c]? = some (.cells cur.toArray el fz)) :
    (w.setCell ⟨c, o, none⟩ v).heap[c]? = some (.cells (cur.set o v).toArray el fz) := by
  obtain ⟨hlt, hget⟩ := Array.getElem?_eq_some_iff.1 h
  simp only [World.setCell, Array.getElem?_modify, if_true, h, Option.map_some]
  simp

theorem heap_setCell_ne (w : World) (a : Addr) (k : Nat) (v : Value) (h : k ≠ a.block) : (w.setCell a v).heap[k]? = w.heap[k]? := by
  simp only [World.setCell, Array.getElem?_modify]
  rw [if_neg (fun e => h e.symm)]

theorem storeCells_ok (c o : Nat) (el : TypeId) (fz : Nat × Nat) : ∀ (vs : List Value) (i : Nat) (cur : List Value) (w : World),
    w.heap[c]? = some (.cells cur.toArray el fz) → o + i + vs.length ≤ cur.length → (∀ v ∈ vs, v.oneCell' = true) → (∀ j, j < cur.length → (fz.1 ≤ j && j < fz.2) = false) →
    ∃ w', (storeCells ⟨c, o, none⟩ vs i).run P w = .ok () w' ∧ w'.heap[c]? = some (.cells (cur.take (o + i) ++ vs ++ cur.drop (o + i + vs.length)).toArray el fz) ∧
      w'.heap.size = w.heap.size ∧ (∀ k, k ≠ c → w'.heap[k]? = w.heap[k]?) ∧ w'.tape = w.tape ∧ w'.os = w.os ∧ w'.output = w.output
  | [], i, cur, w, h, _, _, _ => ⟨w, rfl, by simpa using h, rfl, fun _ _ => rfl, rfl, rfl, rfl⟩
  | v :: vs, i, cur, w, h, hl, h1, hf => by
    simp only [List.length_cons] at hl
    have hadd : ((⟨c, o, none⟩ : Addr).add i) = ⟨c, o + i, none⟩ := addr_add c o i
    have hcell : w.cell? ⟨c, o + i, none⟩ = some cur[o + i] := by
      simp only [World.cell?, h]
      simp
    have hfz : w.frozen? ⟨c, o + i, none⟩ = false := by
      simp only [World.frozen?, h]
      exact hf _ (by omega)
    have hst : (store ((⟨c, o, none⟩ : Addr).add i) v).run P w = .ok () (w.setCell ⟨c, o + i, none⟩ v) := by
      rw [hadd, run_store P w _ v _ (h1 v (List.mem_cons_self ..)), hcell]
      simp [hfz]
    obtain ⟨w', e1, e2, e3, e4, e5, e6, e7⟩ := storeCells_ok c o el fz vs (i + 1) (cur.set (o + i) v) (w.setCell ⟨c, o + i, none⟩ v) (heap_setCell w c (o + i) v cur el fz h) (by simp; omega)
      (fun u hu => h1 u (List.mem_cons_of_mem _ hu)) (by simpa using hf)
    refine ⟨w', ?_, ?_, e3.trans (by simp), fun k hk => (e4 k hk).trans (heap_setCell_ne w _ k v hk), e5, e6, e7⟩
    · simp only [storeCells, Sem.run_bind, hst, Result.andThen_ok, e1]
    · rw [e2]
      congr 3
      simp only [List.length_cons]
      apply List.ext_getElem?
      intro n
      simp only [List.getElem?_append, List.length_append, List.length_take, List.length_set, List.getElem?_take, List.getElem?_drop, List.getElem?_set, List.length_cons, List.getElem?_cons]
      grind

/-- A written block. -/
theorem Sim.write (s : Sim P r H w) {b c e : Nat} {B B' : Blk} (hb : H.get b = some B) (hw : B.wr = true) (hr : r b = some (c, e)) {w' : World} (hsz : w'.heap.size = w.heap.size)
    (ho : ∀ k, k ≠ c → w'.heap[k]? = w.heap[k]?) (hB : BR r B' c e w') (ht : w'.tape = w.tape) (hos : w'.os = w.os) (hout : w'.output = w.output) :
    Sim P r (H.set b B') w' ∧ Ext r H w r (H.set b B') w' := by
  refine ⟨⟨?_, ?_, ?_, s.glb⟩, ⟨fun _ _ => rfl, by simp, by omega, ?_, ?_, ht, hos, hout⟩⟩
  · intro b1 B1 c1 e1 h1 h2
    rw [Heap.get_set hb] at h1
    by_cases hbb : b = b1
    · subst hbb; rw [if_pos rfl] at h1; cases h1; rw [hr] at h2; cases h2; exact hB
    · rw [if_neg hbb] at h1
      have hne : c1 ≠ c := fun he => by subst he; exact hbb (s.inj b B b1 B1 c1 e e1 hb hw h1 hr h2)
      exact (s.blk b1 B1 c1 e1 h1 h2).mono (fun _ _ h => h) (ho c1 hne)
  · intro b1 B1 b2 B2 c1 e1 e2 h1 hw1 h2 q1 q2
    rw [Heap.get_set hb] at h1 h2
    have g1 : ∃ B1', H.get b1 = some B1' ∧ (B1'.wr = true ∨ b1 = b) := by
      by_cases hbb : b = b1
      · subst hbb; exact ⟨B, hb, .inr rfl⟩
      · rw [if_neg hbb] at h1; exact ⟨B1, h1, .inl hw1⟩
    have g2 : ∃ B2', H.get b2 = some B2' := by
      by_cases hbb : b = b2
      · subst hbb; exact ⟨B, hb⟩
      · rw [if_neg hbb] at h2; exact ⟨B2, h2⟩
    obtain ⟨B1', k1, k2⟩ := g1
    obtain ⟨B2', k3⟩ := g2
    have k4 : B1'.wr = true := by
      rcases k2 with k2 | rfl
      · exact k2
      · rw [hb] at k1; cases k1; exact hw
    exact s.inj b1 B1' b2 B2' c1 e1 e2 k1 k4 k3 q1 q2
  · intro b1 c1 e1 h1
    have := s.dom b1 c1 e1 h1
    simp; omega
  · intro k _ hk
    exact ho k (fun he => hk ⟨b, B, e, hb, hw, by rw [he]; exact hr⟩)
  · rintro k _ ⟨b1, B1, e1, h1, h2, h3⟩
    rw [Heap.get_set hb] at h1
    by_cases hbb : b = b1
    · subst hbb; exact ⟨b, B, e1, hb, hw, h3⟩
    · rw [if_neg hbb] at h1; exact ⟨b1, B1, e1, h1, h2, h3⟩

/-- Less is known of the heap. -/
theorem Sim.weaken (s : Sim P r H w) {H' : Heap} (hn : H'.next = H.next) (hg : ∀ b B, H'.get b = some B → H.get b = some B) : Sim P r H' w :=
  ⟨fun b B c e h => s.blk b B c e (hg b B h), fun b B b' B' c e e' h hw h' => s.inj b B b' B' c e e' (hg b B h) hw (hg b' B' h'), fun b c e h => by rw [hn]; exact s.dom b c e h, s.glb⟩
theorem Ext.weaken {r' : Ren} {H' : Heap} {w' : World} (x : Ext r H w r' H' w') {H'' : Heap} (hn : H''.next = H'.next) (hg : ∀ b B, H''.get b = some B → H'.get b = some B) : Ext r H w r' H'' w' :=
  ⟨x.ren, by rw [hn]; exact x.next, x.size, x.keep, fun c hc ⟨b, B, e, h1, h2, h3⟩ => x.wrs c hc ⟨b, B, e, hg b B h1, h2, h3⟩, x.tape, x.os, x.output⟩

/-- A block that grew in its place. -/
theorem Sim.turn (s : Sim P r H w) {b c e : Nat} {B B' : Blk} (hb : H.get b = some B) (hw : B.wr = true) (hr : r b = some (c, e)) {w' : World} (hsz : w'.heap.size = w.heap.size)
    (ho : ∀ k, k ≠ c → w'.heap[k]? = w.heap[k]?) (hB : BR r B' c e w') (ht : w'.tape = w.tape) (hos : w'.os = w.os) (hout : w'.output = w.output) :
    Sim P (upd r H.next (c, e)) (H.turn b B') w' ∧ Ext r H w (upd r H.next (c, e)) (H.turn b B') w' := by
  have hnone : r H.next = none := by
    cases h : r H.next with
    | none => rfl
    | some x => exact absurd (s.dom _ x.1 x.2 h).1 (Nat.lt_irrefl _)
  have hle : r.le (upd r H.next (c, e)) := fun k x h => by
    unfold upd
    rw [if_neg (fun e => by subst e; rw [hnone] at h; cases h)]; exact h
  have hbn : b < H.next := (s.dom b c e hr).1
  have old : ∀ {b1 B1 c1 e1}, (H.turn b B').get b1 = some B1 → upd r H.next (c, e) b1 = some (c1, e1) → (b1 = H.next ∧ B1 = B' ∧ c1 = c ∧ e1 = e) ∨ (b1 ≠ b ∧ b1 ≠ H.next ∧ H.get b1 = some B1 ∧ r b1 = some (c1, e1)) := by
    intro b1 B1 c1 e1 h1 h2
    rw [Heap.get_turn] at h1
    unfold upd at h2
    by_cases h3 : H.next = b1
    · rw [if_pos h3] at h1; rw [if_pos h3.symm] at h2; cases h1; cases h2; exact .inl ⟨h3.symm, rfl, rfl, rfl⟩
    · rw [if_neg h3] at h1; rw [if_neg (fun e => h3 e.symm)] at h2
      by_cases h4 : b = b1
      · rw [if_pos h4] at h1; cases h1
      · rw [if_neg h4] at h1; exact .inr ⟨fun e => h4 e.symm, fun e => h3 e.symm, h1, h2⟩
  refine ⟨⟨?_, ?_, ?_, ?_⟩, ⟨?_, by simp, by omega, ?_, ?_, ht, hos, hout⟩⟩
  · intro b1 B1 c1 e1 h1 h2
    rcases old h1 h2 with ⟨rfl, rfl, rfl, rfl⟩ | ⟨n1, _, h3, h4⟩
    · exact hB.mono hle rfl
    · have hne : c1 ≠ c := fun he => by subst he; exact n1 (s.inj b B b1 B1 c1 e e1 hb hw h3 hr h4).symm
      exact (s.blk b1 B1 c1 e1 h3 h4).mono hle (ho c1 hne)
  · intro b1 B1 b2 B2 c1 e1 e2 h1 hw1 h2 q1 q2
    rcases old h1 q1 with ⟨rfl, rfl, rfl, rfl⟩ | ⟨n1, _, h3, h4⟩ <;> rcases old h2 q2 with ⟨rfl, rfl, h9, rfl⟩ | ⟨n2, _, h5, h6⟩
    · rfl
    · exact absurd (s.inj b B b2 B2 _ _ _ hb hw h5 hr h6).symm n2
    · subst h9; exact absurd (s.inj b B b1 B1 _ _ _ hb hw h3 hr h4).symm n1
    · exact s.inj b1 B1 b2 B2 c1 e1 e2 h3 hw1 h5 h4 h6
  · intro b1 c1 e1 h1
    unfold upd at h1
    by_cases h3 : b1 = H.next
    · rw [if_pos h3] at h1; cases h1; have := s.dom b c e hr; simp; omega
    · rw [if_neg h3] at h1; have := s.dom b1 c1 e1 h1; simp; omega
  · intro g hg
    obtain ⟨x, hx⟩ := s.glb g hg
    exact ⟨x, hle _ _ hx⟩
  · intro k hk; unfold upd; rw [if_neg (by omega)]
  · intro k _ hk
    exact ho k (fun he => hk ⟨b, B, e, hb, hw, by rw [he]; exact hr⟩)
  · rintro k _ ⟨b1, B1, e1, h1, h2, h3⟩
    rcases old h1 h3 with ⟨rfl, rfl, rfl, rfl⟩ | ⟨_, _, h4, h5⟩
    · exact ⟨b, B, e1, hb, hw, hr⟩
    · exact ⟨b1, B1, e1, h4, h2, h5⟩
end
end Go.Abs
namespace Go.Abs
open Go
section
variable {P : Program} {C : Cfg} {r : Ren} {H : Heap} {w : World}

/-- What an operation that gives a value, or none, does to the world. -/
def Gives (P : Program) (r : Ren) (H : Heap) (w : World) (s : Sem Value) (v : AV) (H' : Heap) : Prop :=
  ∃ c w' r', s.run P w = .ok c w' ∧ VR r' v c ∧ Sim P r' H' w' ∧ Ext r H w r' H' w'

theorem aones_ok : ∀ {l : List AV} {x : List Value}, VRL r l x → aones l = true → ∀ v ∈ x, v.oneCell' = true
  | [], x, h, _ => by simp only [VRL] at h; subst h; intro v hv; cases hv
  | a :: l, x, h, ho => by
    simp only [VRL] at h; obtain ⟨c, y, rfl, h2, h3⟩ := h
    simp only [aones, Bool.and_eq_true] at ho
    intro v hv
    rcases List.mem_cons.1 hv with rfl | hv
    · exact h2.one ho.1
    · exact aones_ok h3 ho.2 v hv

/-- An operation that makes one new block. -/
def Makes (P : Program) (r : Ren) (w : World) (s : Sem Value) (v : AV) (B : Blk) : Prop :=
  ∃ (n : Nat) (x y : List Value) (el : TypeId) (fz : Nat × Nat) (c : Value), s.run P w = .ok c (World.alloc { w with drawn := n } (.cells (x ++ y).toArray el fz)) ∧ VRL r B.cells x ∧ B.wr = true ∧
    (fz.1 ≤ fz.2 ∧ ∀ j, j < (x ++ y).length → (fz.1 ≤ j && j < fz.2) = false) ∧ ∀ (r' : Ren) (b : Nat), r' b = some (w.heap.size, (x ++ y).length) → VR r' (v.rebase b) c

theorem upd_self (r : Ren) (b : Nat) (x : Nat × Nat) : upd r b x b = some x := by simp [upd]

theorem Makes.gives {s : Sem Value} {v : AV} {B : Blk} (h : Makes P r w s v B) (si : Sim P r H w) (hv : v.rebase H.next = v) : Gives P r H w s v (H.alloc B) := by
  obtain ⟨n, x, y, el, fz, c, h1, h2, h3, h4, h5⟩ := h
  obtain ⟨s', e'⟩ := (si.drew n).alloc B (x ++ y) el fz (.inl h4) ⟨x, y, rfl, h2⟩
  refine ⟨c, _, _, h1, ?_, s', (Ext.drew r H w n).trans e'⟩
  rw [← hv]
  exact h5 _ _ (upd_self _ _ _)

theorem new_run (w : World) (x : List Value) (el : TypeId) : (newRow el x.toArray).run P w = .ok ⟨w.heap.size, 0, none⟩ (World.alloc { w with drawn := w.drawn } (.cells (x ++ []).toArray el (0, 0))) := by
  rw [List.append_nil]; rfl

theorem box_ok {a : AV} {u : Value} (h : VR r a u) (el : TypeId) (k : Nat) : Makes P r w (Instr.box el u) (.p k 0) ⟨a.cells, true⟩ := by
  have h1 := new_run (P := P) w u.cells.toList el
  refine ⟨w.drawn, u.cells.toList, [], el, (0, 0), .pointer (some ⟨w.heap.size, 0, none⟩), ?_, h.cells, rfl, ⟨Nat.le_refl _, fun j _ => by simp⟩, fun r' b hb => by simp only [AV.rebase, VR]; exact ⟨_, _, hb, rfl⟩⟩
  simp only [Instr.box, newVar, Sem.run_bind]
  rw [Array.toArray_toList] at h1
  simp only [h1, Result.andThen_ok, Sem.run_pure]

theorem alloc_ok (hC : COK P C) {e : TypeId} {ei : TI} (he : C.T e = some ei) (old : Value) (k : Nat) : Makes P r w (Instr.alloc e true old) (.p k 0) ⟨ei.zero, true⟩ := by
  obtain ⟨z, hz, hv⟩ := zero_ok (P := P) (r := r) (w := w) hC he
  have h1 := new_run (P := P) w z.cells.toList e
  refine ⟨w.drawn, z.cells.toList, [], e, (0, 0), .pointer (some ⟨w.heap.size, 0, none⟩), ?_, hv, rfl, ⟨Nat.le_refl _, fun j _ => by simp⟩, fun r' b hb => by simp only [AV.rebase, VR]; exact ⟨_, _, hb, rfl⟩⟩
  simp only [Instr.alloc, newVar, Sem.run_bind, hz, Result.andThen_ok]
  rw [Array.toArray_toList] at h1
  simp only [Sem.run_bind, h1, Result.andThen_ok, Sem.run_pure]

theorem areps_ok {z : List AV} {x : List Value} (h : VRL r z x) : ∀ n, VRL r (areps n z) (List.replicate n x).flatten
  | 0 => by simp [areps, VRL]
  | n + 1 => by simp only [areps, List.replicate_succ, List.flatten_cons]; exact h.append (areps_ok h n)

theorem zeros_list (x : List Value) : ∀ n, ((Array.range (n * x.length)).map (fun i => x.toArray[i % x.toArray.size]!)).toList = (List.replicate n x).flatten
  | 0 => by simp
  | n + 1 => by
    have ih := zeros_list x n
    simp only [Array.toList_map, Array.toList_range] at ih ⊢
    rw [Nat.add_mul, Nat.one_mul, List.range_add, List.map_append, ih, List.map_map]
    have : List.replicate (n + 1) x = List.replicate n x ++ [x] := List.replicate_succ'
    rw [this, List.flatten_append]
    congr 1
    simp only [List.flatten_cons, List.flatten_nil, List.append_nil]
    apply List.ext_getElem?
    intro i
    simp only [List.getElem?_map, List.getElem?_range]
    by_cases hi : i < x.length
    · have hm : (n * x.length + i) % x.length = i := by rw [Nat.mul_comm, Nat.mul_add_mod]; exact Nat.mod_eq_of_lt hi
      simp [List.getElem?_range, hi, hm]
    · simp [hi]
end
end Go.Abs
namespace Go.Abs
open Go
section
variable {P : Program} {C : Cfg} {r : Ren} {H : Heap} {w : World}

theorem zeros_of {z : Value} {n size : Nat} (hz : z.cells.toList.length = size) : (Array.range (n * size)).map (fun i => z.cells[i % z.cells.size]!) = (List.replicate n z.cells.toList).flatten.toArray := by
  have := zeros_list z.cells.toList n
  rw [hz] at this
  apply Array.toList_inj.1
  rw [← this]

theorem buildSlice_ok (hC : COK P C) {t e : TypeId} {ti ei : TI} (ht : C.T t = some ti) (hk : ti.k = .slice e) (he : C.T e = some ei) (hz : ei.zero.length = ei.size)
    {len : Nat} (hl : len * ei.size ≤ 16777216) {ps : List (Nat × AV)} {qs : Array (Nat × Value)} (k1 : qs.toList.map (·.1) = ps.map (·.1)) (k2 : VRL r (ps.map (·.2)) (qs.toList.map (·.2)))
    {l : List AV} (h : afill (fun j => some (j * ei.size, ei.size)) (areps len ei.zero) ps = some l)
    (kk : Nat) : Makes P r w (Instr.buildSlice t len qs) (.sl kk 0 len (.kn len)) ⟨l, true⟩ := by
  obtain ⟨d, hd, hkk⟩ := desc_of hC ht
  rw [hk] at hkk; simp only [KOK] at hkk; subst hkk
  obtain ⟨z, hzr, hzv⟩ := zero_ok (P := P) (r := r) (w := w) hC he
  have ts := run_size (P := P) (w := w) (hC.T e ei he)
  have hzl : z.cells.toList.length = ei.size := by rw [hzv.length, hz]
  obtain ⟨y, hy1, hy2⟩ := afill_ok (r := r) k1 k2 (areps_ok hzv len) h
  have h1 := new_run (P := P) w y e
  refine ⟨w.drawn, y, [], e, (0, 0), .slice (some ⟨w.heap.size, 0, none⟩) len len, ?_, hy2, rfl, ⟨Nat.le_refl _, fun j _ => by simp⟩, fun r' b hb => ?_⟩
  · unfold Instr.buildSlice
    have hnb : ¬ (2 ^ 24 < len * ei.size) := by omega
    simp only [Sem.run_bind, run_under hd, ts, Result.andThen_ok, gt_iff_lt, hnb, if_false, Sem.run_pure]
    by_cases h0 : len * ei.size = 0
    · have hy0 : y = [] ∨ True := .inr trivial
      simp only [h0, if_true, Sem.run_pure, Result.andThen_ok]
      have e0 : (List.replicate len z.cells.toList).flatten = [] := by
        have : (List.replicate len z.cells.toList).flatten.length = 0 := by simp [hzl]; simpa using h0
        exact List.length_eq_zero_iff.1 this
      rw [e0] at hy1
      have e1 : ((Array.range 0).map fun i => (#[] : Array Value)[i % (#[] : Array Value).size]!) = ([] : List Value).toArray := by simp
      simp only [Sem.run_bind, Sem.run_pure, Result.andThen_ok]
      rw [e1, hy1]
      simp only [Sem.run_bind, h1, Result.andThen_ok, Sem.run_pure]
    · simp only [h0, if_false, Sem.run_bind, hzr, Result.andThen_ok, Sem.run_pure]
      rw [zeros_of hzl, hy1]
      simp only [Sem.run_bind, h1, Result.andThen_ok, Sem.run_pure]
  · simp only [AV.rebase, VR]; exact ⟨_, _, _, hb, rfl, rfl⟩

theorem wrap64_of {c : Int} (h0 : 0 ≤ c) (h1 : c ≤ 140737488355328) : IntKind.i64.wrap c = c := by
  exact IntWalk.i64_in _ (by omega)

theorem makeSlice_ok (hC : COK P C) {t e : TypeId} {ti ei : TI} (ht : C.T t = some ti) (hk : ti.k = .slice e) (he : C.T e = some ei) (hz : ei.zero.length = ei.size)
    {k k' : IntKind} {l c : Int} (h0 : 0 ≤ l) (h1 : l ≤ c) (h2 : c ≤ bigCells) (h3 : ei.bytes * c ≤ bigCells)
    (kk : Nat) : Makes P r w (Instr.makeSlice t (.int k l) (.int k' c)) (.sl kk 0 l.toNat (.kn c.toNat)) ⟨areps c.toNat ei.zero, true⟩ := by
  obtain ⟨d, hd, hkk⟩ := desc_of hC ht
  rw [hk] at hkk; simp only [KOK] at hkk; subst hkk
  obtain ⟨z, hzr, hzv⟩ := zero_ok (P := P) (r := r) (w := w) hC he
  have ts := run_size (P := P) (w := w) (hC.T e ei he)
  obtain ⟨ix, hix, hix1, hix2, _⟩ := (hC.T e ei he).info
  have hzl : z.cells.toList.length = ei.size := by rw [hzv.length, hz]
  unfold bigCells at h2 h3
  have q1 := new_run (P := P) w (List.replicate c.toNat z.cells.toList).flatten e
  refine ⟨w.drawn, (List.replicate c.toNat z.cells.toList).flatten, [], e, (0, 0), .slice (some ⟨w.heap.size, 0, none⟩) l.toNat c.toNat, ?_, areps_ok hzv c.toNat, rfl, ⟨Nat.le_refl _, fun j _ => by simp⟩, fun r' b hb => ?_⟩
  · unfold Instr.makeSlice
    have w1 : IntKind.i64.wrap l = l := wrap64_of h0 (by omega)
    have w2 : IntKind.i64.wrap c = c := wrap64_of (by omega) (by omega)
    have n1 : ¬ c < 0 := by omega
    have n2 : ¬ (2 ^ 48 : Int) < (ei.bytes : Int) * c := by omega
    have n3 : ¬ l < 0 := by omega
    have n4 : ¬ c < l := by omega
    have big : (decide (c < 0) || decide ((ei.bytes : Int) * c > 2 ^ 48) || decide (l < 0) || decide (l > c)) = false := by
      simp only [gt_iff_lt, n1, n2, n3, n4, decide_false, Bool.or_self]
    simp only [Sem.run_bind, run_under hd, ts, Result.andThen_ok, Sem.run_pure, asInt, asIntOf, run_info hix, hix2, w1, w2, big, Bool.false_eq_true, if_false, run_askRoom]
    by_cases hn : c.toNat * ei.size = 0
    · simp only [hn, if_true, Sem.run_pure, Result.andThen_ok]
      have e0 : (List.replicate c.toNat z.cells.toList).flatten = [] := by
        have : (List.replicate c.toNat z.cells.toList).flatten.length = 0 := by simp [hzl]; simpa using hn
        exact List.length_eq_zero_iff.1 this
      rw [e0] at q1 ⊢
      have e1 : ((Array.range 0).map fun i => (#[] : Array Value)[i % (#[] : Array Value).size]!) = ([] : List Value).toArray := by simp
      simp only [Sem.run_bind, Sem.run_pure, Result.andThen_ok]
      rw [e1]
      simp only [q1, Result.andThen_ok, Sem.run_pure]
    · simp only [hn, if_false, Sem.run_bind, hzr, Result.andThen_ok, Sem.run_pure]
      rw [zeros_of hzl]
      simp only [q1, Result.andThen_ok, Sem.run_pure]
  · simp only [AV.rebase, VR]; exact ⟨_, _, _, hb, rfl, rfl⟩

theorem store_ok (hC : COK P C) (s : Sim P r H w) {t : TypeId} {a x : AV} {u v : Value} (hu : VR r a u) (hv : VR r x v) {H' : Heap} (h : astore C H t a x = some H') :
    ∃ w', (Instr.storeAt t u v).run P w = .ok () w' ∧ Sim P r H' w' ∧ Ext r H w r H' w' := by
  unfold astore at h
  split at h
  · rename_i i b o hi
    split at h
    · rename_i B hb
      split at h
      · rename_i hc
        obtain ⟨hw, hlen, hfit, hones⟩ := hc
        cases h
        have ts := run_size (P := P) (w := w) (hC.T t i hi)
        simp only [VR] at hu
        obtain ⟨c, e, hr, rfl⟩ := hu
        obtain ⟨cells, el, fz, g1, g2, g3, y, z, rfl, g4⟩ := s.blk b B c e hb hr
        have hcv := hv.cells
        have hvl := hcv.length
        have hyl := g4.length
        have hfz0 := g3.resolve_right (by simp [hw])
        have hfz := hfz0.2
        obtain ⟨w', e1, e2, e3, e4, e5, e6, e7⟩ := storeCells_ok (P := P) c o el fz v.cells.toList 0 (y ++ z) w g1 (by simp at hvl ⊢; omega) (aones_ok hcv hones) hfz
        have hB : BR r ⟨B.cells.take o ++ x.cells ++ B.cells.drop (o + i.size), true⟩ c e w' := by
          refine ⟨_, el, fz, e2, ?_, (.inl ⟨hfz0.1, fun j hj => hfz j (by simp at hj hvl ⊢; omega)⟩), y.take o ++ v.cells.toList ++ y.drop (o + i.size), z, ?_, ((g4.take o).append hcv).append (g4.drop _)⟩
          · simp at hvl g2 ⊢; omega
          · simp only [Nat.add_zero, hvl, hlen]
            rw [List.take_append_of_le_length (by omega), List.drop_append_of_le_length (by omega)]
            simp
        obtain ⟨s', x'⟩ := s.write hb hw hr e3 e4 hB e5 e6 e7
        refine ⟨w', ?_, s', x'⟩
        have hsz : v.cells.size = i.size := by simp at hvl; omega
        simp only [Instr.storeAt, Instr.sureAddr, Sem.run_bind, Sem.run_pure, Result.andThen_ok, storeVar, ts, hsz, ne_eq, not_true_eq_false, if_false, e1]
      · cases h
    · cases h
  · cases h

theorem bytes_VRL (l : List UInt8) : VRL r (l.map fun c => AV.i .u8 c.toNat) (l.map fun c => Value.int .u8 c.toNat) := by
  induction l with
  | nil => simp [VRL]
  | cons c l ih => simp only [List.map_cons, VRL]; exact ⟨_, _, rfl, VR.int _ _, ih⟩

theorem freeze_new (w : World) (cells : Array Value) (el : TypeId) : (w.alloc (.cells cells el)).freeze ⟨w.heap.size, cells.size, none⟩ 1 = w.alloc (.cells cells el (cells.size, cells.size + 1)) := by
  simp only [World.freeze, World.alloc]
  simp only [Nat.one_ne_zero, if_false]
  congr 1
  apply Array.ext_getElem?
  intro i
  rw [Array.getElem?_modify]
  by_cases h : w.heap.size = i
  · subst h; simp
  · rw [if_neg h]
    simp only [Array.getElem?_push]
    rw [if_neg (fun e => h e.symm), if_neg (fun e => h e.symm)]

theorem strbytes_ok (hC : COK P C) {src dst e : TypeId} {si di ei : TI} (hs : C.T src = some si) (hsk : si.k = .string) (hd : C.T dst = some di) (hdk : di.k = .slice e)
    (he : C.T e = some ei) (hek : ei.k = .int .u8) (l : List UInt8)
    (kk : Nat) : Makes P r w (convert src dst (.string ⟨l.toArray⟩)) (.sl kk 0 l.length (.op 1)) ⟨l.map fun c => .i .u8 c.toNat, true⟩ := by
  obtain ⟨d1, hd1, hk1⟩ := desc_of hC hs
  obtain ⟨d2, hd2, hk2⟩ := desc_of hC hd
  obtain ⟨d3, hd3, hk3⟩ := desc_of hC he
  rw [hsk] at hk1; rw [hdk] at hk2; rw [hek] at hk3; simp only [KOK] at hk1 hk2 hk3; subst hk1 hk2 hk3
  let q : Question := .appendCap l.length 0 e
  let cap := q.cut (w.tape w.drawn q)
  have hcap : l.length ≤ cap := by simp only [cap, q, Question.cut]; omega
  let x : List Value := (l.map fun c => Value.int .u8 c.toNat) ++ List.replicate (cap - l.length) (.int .u8 0)
  have hxl : x.length = cap := by simp [x]; omega
  refine ⟨w.drawn + 1, l.map fun c => Value.int .u8 c.toNat, List.replicate (cap - l.length) (.int .u8 0), e, (x.length, x.length + 1), .slice (some ⟨w.heap.size, 0, none⟩) l.length cap, ?_, bytes_VRL l, rfl, ⟨Nat.le_succ _, fun j hj => ?_⟩, fun r' b hb => ?_⟩
  · simp only [convert, Sem.run_bind, run_under hd1, run_under hd2, run_under hd3, Result.andThen_ok, Conv.stringToBytes, ByteArray.size, List.size_toArray, run_choose]
    have hnf : q.forced = false := rfl
    simp only [show (Question.appendCap l.length 0 e).forced = false from rfl, Bool.false_eq_true, if_false, Result.andThen_ok]
    have hcells : (l.toArray.map fun b => Value.int .u8 (b.toNat : Int)) ++ Array.replicate (cap - l.length) (.int .u8 0) = x.toArray := by
      simp [x]
    have hc2 : (Question.appendCap l.length 0 e).cut (w.tape w.drawn (.appendCap l.length 0 e)) = cap := rfl
    simp only [hc2, hcells, newRow, Sem.run_bind, run_newObj, Result.andThen_ok, Sem.run_pure, markStringish, run_shape]
    have hsh : (World.alloc { w with drawn := w.drawn + 1 } (.cells x.toArray e)).shape? w.heap.size = some (e, x.length) := by
      simp only [World.shape?, World.alloc]; simp
    have hfr := freeze_new { w with drawn := w.drawn + 1 } x.toArray e
    simp only [List.size_toArray] at hfr
    simp only [World.alloc] at hsh hfr ⊢
    simp only [hsh, run_freeze, hfr, Result.andThen_ok, Sem.run_pure]
    rfl
  · have : j < x.length := hj
    simp; omega
  · simp only [AV.rebase, VR]
    exact ⟨_, _, cap, hb, rfl, hcap, by change 0 + cap * 1 ≤ x.length; omega⟩
end
end Go.Abs
namespace Go.Abs
open Go
section
variable {P : Program} {C : Cfg} {r : Ren} {H : Heap} {w : World}

theorem anew_ok (hC : COK P C) (s : Sim P r H w) {u : TypeId} {size n : Nat} {x : AV} {v : Value} (hv : VR r x v) {new : List AV} (h : anew C H u size x = some (n, new)) :
    (Builtin.lenOf v).run P w = .ok n w ∧ (∃ y : List Value, VRL r new y ∧ y.length = n * size ∧ (Builtin.firstCells size n v).run P w = .ok y.toArray w) ∧
    ((∃ e, P.underlying u = some (.slice e)) ∨ P.underlying u = some .string) := by
  unfold anew at h
  split at h
  · rename_i hT
    obtain ⟨d, hd, hk⟩ := desc_of hC hT
    simp only [KOK] at hk; subst hk
    simp only [VR] at hv; subst hv; cases h
    exact ⟨rfl, ⟨[], by simp [VRL], by simp, rfl⟩, .inl ⟨_, hd⟩⟩
  · rename_i hT
    obtain ⟨d, hd, hk⟩ := desc_of hC hT
    simp only [KOK] at hk; subst hk
    simp only [VR] at hv; obtain ⟨a, k, rfl⟩ := hv; cases h
    exact ⟨rfl, ⟨[], by simp [VRL], by simp, by simp [Builtin.firstCells, loadCells, loadCellsFrom]⟩, .inl ⟨_, hd⟩⟩
  · rename_i b o m cap hT
    obtain ⟨d, hd, hk⟩ := desc_of hC hT
    simp only [KOK] at hk; subst hk
    simp only [VR] at hv; obtain ⟨c, e, k, hr, rfl, _⟩ := hv
    split at h
    · rename_i B hb
      split at h
      · rename_i hfit
        cases h
        obtain ⟨y, hy1, hy2⟩ := run_loadCells_at (P := P) (s.blk _ _ c e hb hr) hfit
        refine ⟨rfl, ⟨y, hy1, ?_, hy2⟩, .inl ⟨_, hd⟩⟩
        rw [hy1.length]; simp; omega
      · cases h
    · cases h
  · rename_i l hT
    obtain ⟨d, hd, hk⟩ := desc_of hC hT
    simp only [KOK] at hk; subst hk
    simp only [VR] at hv; subst hv
    simp only [Bool.cond_eq_ite] at h
    split at h
    · rename_i hs
      have hs1 : size = 1 := by simpa using hs
      cases h
      refine ⟨rfl, ⟨_, bytes_VRL l, by simp [hs1], ?_⟩, .inr hd⟩
      simp only [Builtin.firstCells, Sem.run_pure, extract_list]
      simp
    · cases h
  · cases h

theorem append_room (hC : COK P C) {t u e ty : TypeId} {ei : TI} (hdt : P.underlying t = some (.slice e)) (he : C.T e = some ei)
    (hdu : (∃ e, P.underlying u = some (.slice e)) ∨ P.underlying u = some .string) {base : Option Addr} {sLen sCap n : Nat} {v : Value} (hlen : (Builtin.lenOf v).run P w = .ok n w)
    {y : List Value} (hy : (Builtin.firstCells ei.size n v).run P w = .ok y.toArray w) (hroom : sLen + n ≤ sCap) {w' : World}
    (hst : ∀ a, base = some a → (storeCells (a.add (sLen * ei.size)) y).run P w = .ok () w') (hst0 : base = none → w' = w) :
    (Builtin.append_ #[t, u] ty #[.slice base sLen sCap, v]).run P w = .ok (.slice base (sLen + n) sCap) w' := by
  have ts := run_size (P := P) (w := w) (hC.T e ei he)
  unfold Builtin.append_
  rcases hdu with ⟨e', hdu⟩ | hdu
  all_goals
    simp only [List.getElem?_toArray, List.getElem?_cons_zero, List.getElem?_cons_succ, Sem.run_bind, run_under hdt, Result.andThen_ok, ts, run_under hdu, Sem.run_pure,
      Bool.false_eq_true, if_false, hlen, hroom, if_true, Bool.not_false, hy]
    cases base with
    | none => simp only [hst0 rfl, Sem.run_pure]
    | some a => simp only [hst a rfl, Sem.run_bind, Result.andThen_ok, Sem.run_pure]

theorem append_grow (hC : COK P C) {t u e ty : TypeId} {ei : TI} (hdt : P.underlying t = some (.slice e)) (he : C.T e = some ei) {z : Value} (hz : ∀ w, (zeroValue e).run P w = .ok z w)
    (hdu : (∃ e, P.underlying u = some (.slice e)) ∨ P.underlying u = some .string) {base : Option Addr} {sLen sCap n : Nat} {v : Value} (hlen : (Builtin.lenOf v).run P w = .ok n w)
    {x y : List Value} (hx : (Builtin.firstCells ei.size sLen (.slice base sLen sCap)).run P { w with drawn := w.drawn + 1 } = .ok x.toArray { w with drawn := w.drawn + 1 })
    (hy : (Builtin.firstCells ei.size n v).run P { w with drawn := w.drawn + 1 } = .ok y.toArray { w with drawn := w.drawn + 1 })
    (hroom : sCap < sLen + n) (h1 : sLen + n ≤ bigCells) (h2 : (sLen + n) * ei.bytes ≤ bigCells) :
    ∃ cap, sLen + n ≤ cap ∧ (Builtin.append_ #[t, u] ty #[.slice base sLen sCap, v]).run P w =
      .ok (.slice (some ⟨w.heap.size, 0, none⟩) (sLen + n) cap) (World.alloc { w with drawn := w.drawn + 1 } (.cells (x ++ y ++ (Builtin.zeroCells z.cells (cap - (sLen + n))).toList).toArray e)) := by
  have ts := run_size (P := P) (w := w) (hC.T e ei he)
  obtain ⟨ix, hix, hix1, hix2, _⟩ := (hC.T e ei he).info
  unfold bigCells at h1 h2
  have n1 : ¬ (sLen + n ≤ sCap) := by omega
  have n2 : ¬ ((((sLen + n : Nat) : Int) > IntKind.i64.max) ∧ ((False) ∨ ix.bytes = 0)) := by
    intro h; have : IntKind.i64.max = 9223372036854775807 := rfl; omega
  have n3 : ¬ (Builtin.nextslicecap (sLen + n) sCap * ix.bytes > 2 ^ 48) := by
    have := growslice_fits (bytes := ix.bytes) hroom (by rw [hix2]; exact h2)
    omega
  refine ⟨(Question.appendCap (sLen + n) sCap e).cut (w.tape w.drawn (.appendCap (sLen + n) sCap e)), by simp only [Question.cut]; omega, ?_⟩
  unfold Builtin.append_
  rcases hdu with ⟨e', hdu⟩ | hdu
  all_goals
    simp only [List.getElem?_toArray, List.getElem?_cons_zero, List.getElem?_cons_succ, Sem.run_bind, run_under hdt, Result.andThen_ok, ts, run_under hdu, Sem.run_pure,
      Bool.false_eq_true, if_false, hlen, n1, Bool.not_false, if_true, run_info hix, n2, n3, run_choose, show (Question.appendCap (sLen + n) sCap e).forced = false from rfl, run_askRoom, hx, hy, hz]
    simp only [newRow, Sem.run_bind, run_newObj, Result.andThen_ok, Sem.run_pure, World.alloc]
    congr 4
    apply Array.toList_inj.1
    simp

theorem zeroCells_length (z : Array Value) (n : Nat) : (Builtin.zeroCells z n).toList.length = n * z.size := by
  simp [Builtin.zeroCells]

theorem append_ok (hC : COK P C) (s : Sim P r H w) {t u ty : TypeId} {a x v : AV} {p q : Value} (hp : VR r a p) (hq : VR r x q) {H' : Heap} (h : aappend C H t u a x = some (v, H')) :
    Gives P r H w (Builtin.append_ #[t, u] ty #[p, q]) v H' := by
  unfold aappend at h
  split at h
  · rename_i e _ _ _ hT
    obtain ⟨d, hdt, hk⟩ := desc_of hC hT
    simp only [KOK] at hk; subst hk
    split at h
    · cases h
    · rename_i ei he
      split at h
      · cases h
      · rename_i n new hnew
        split at h
        · rename_i hzs
          obtain ⟨hzs, hones⟩ := hzs
          have hz : ∃ z, (∀ w, (zeroValue e).run P w = .ok z w) ∧ z.cells.size = ei.size := by
            obtain ⟨ix, hx, _, _, z, hz, hv⟩ := (hC.T e ei he).info
            exact ⟨z, fun w => by simp [zeroValue, run_info hx, hz], by have := hv.length; simp at this; omega⟩
          obtain ⟨z, hz, hzl⟩ := hz
          obtain ⟨hlen, ⟨y, hy1, hy2, hy3⟩, hdu⟩ := anew_ok (P := P) hC s hq hnew
          have sd := s.drew (w.drawn + 1)
          obtain ⟨_, ⟨y', hy1', hy2', hy3'⟩, _⟩ := anew_ok (P := P) hC sd hq hnew
          split at h
          · -- nil
            simp only [VR] at hp; subst hp
            split at h
            · rename_i hn
              subst hn; cases h
              have := append_room (P := P) (w := w) (ty := ty) (sLen := 0) (sCap := 0) (base := none) hC hdt he hdu hlen hy3 (Nat.le_refl _) (w' := w) (fun a h => by cases h) (fun _ => rfl)
              exact ⟨_, _, r, this, by simp only [VR], s, Ext.refl _ _ _⟩
            · split at h
              · rename_i hn0 hb
                cases h
                have hx0 : (Builtin.firstCells ei.size 0 (.slice none 0 0)).run P { w with drawn := w.drawn + 1 } = .ok ([] : List Value).toArray { w with drawn := w.drawn + 1 } := rfl
                obtain ⟨cap, hcap, hrun⟩ := append_grow (P := P) (w := w) (ty := ty) hC hdt he hz hdu hlen hx0 hy3' (by omega) (by omega) (by simpa using hb.2)
                obtain ⟨s', e'⟩ := sd.alloc ⟨new, true⟩ ([] ++ y' ++ (Builtin.zeroCells z.cells (cap - (0 + n))).toList) e (0, 0) (.inl ⟨Nat.le_refl _, fun j _ => by simp⟩) ⟨y', (Builtin.zeroCells z.cells (cap - (0 + n))).toList, rfl, hy1'⟩
                refine ⟨_, _, _, hrun, ?_, s', (Ext.drew r H w (w.drawn + 1)).trans e'⟩
                simp only [VR]
                refine ⟨_, _, cap, upd_self _ _ _, by simp, by omega, ?_⟩
                simp only [List.length_append, zeroCells_length, hy2', hzl, List.length_nil]
                have : cap = n + (cap - (0 + n)) := by omega
                rw [Nat.zero_add, Nat.zero_add, ← Nat.add_mul, ← (by omega : cap = n + (cap - (0 + n)))]
                exact Nat.le_refl _
              · cases h
          · rename_i b o len cap
            simp only [VR] at hp
            obtain ⟨c, ext, k, hr, rfl, hcap⟩ := hp
            split at h
            · cases h
            · rename_i B hb
              have grow : k < len + n → len + n ≤ bigCells → (len + n) * ei.bytes ≤ bigCells → o + len * ei.size ≤ B.cells.length →
                  Gives P r H w (Builtin.append_ #[t, u] ty #[.slice (some ⟨c, o, none⟩) len k, q]) (.sl H.next 0 (len + n) (.op ei.size)) (H.alloc ⟨(B.cells.drop o).take (len * ei.size) ++ new, true⟩) := by
                intro g1 g2 g3 g4
                obtain ⟨xo, hxo, hxr⟩ := run_loadCells_at (P := P) (sd.blk _ _ c ext hb hr) g4
                obtain ⟨cp, hcp, hrun⟩ := append_grow (P := P) (w := w) (ty := ty) hC hdt he hz hdu hlen (base := some ⟨c, o, none⟩) (sCap := k) (x := xo) (by simpa [Builtin.firstCells] using hxr) hy3' g1 g2 g3
                obtain ⟨s', e'⟩ := sd.alloc ⟨(B.cells.drop o).take (len * ei.size) ++ new, true⟩ (xo ++ y' ++ (Builtin.zeroCells z.cells (cp - (len + n))).toList) e (0, 0) (.inl ⟨Nat.le_refl _, fun j _ => by simp⟩) ⟨xo ++ y', _, rfl, hxo.append hy1'⟩
                refine ⟨_, _, _, hrun, ?_, s', (Ext.drew r H w (w.drawn + 1)).trans e'⟩
                simp only [VR]
                refine ⟨_, _, cp, upd_self _ _ _, rfl, hcp, ?_⟩
                have hxol : xo.length = len * ei.size := by rw [hxo.length]; simp; omega
                simp only [List.length_append, zeroCells_length, hy2', hzl, hxol]
                rw [Nat.zero_add, ← Nat.add_mul, ← Nat.add_mul, ← (by omega : cp = len + n + (cp - (len + n)))]
                exact Nat.le_refl _
              split at h
              · rename_i kk
                simp only at hcap; subst hcap
                split at h
                · rename_i hroom
                  split at h
                  · rename_i hn
                    subst hn; cases h
                    have hy0 : y = [] := List.length_eq_zero_iff.1 (by simpa using hy2)
                    subst hy0
                    have := append_room (P := P) (w := w) (ty := ty) (base := some ⟨c, o, none⟩) hC hdt he hdu hlen hy3 hroom (w' := w) (fun a _ => rfl) (fun h => by cases h)
                    exact ⟨_, _, r, this, by simp only [VR]; exact ⟨c, ext, _, hr, rfl, rfl⟩, s, Ext.refl _ _ _⟩
                  · split at h
                    · rename_i hc
                      obtain ⟨hw, hfit⟩ := hc
                      cases h
                      obtain ⟨cells, el, fz, g1, g2, g3, yy, zz, rfl, g4⟩ := s.blk b B c ext hb hr
                      have hyl := g4.length
                      have hfz0 := g3.resolve_right (by simp [hw])
                      have hfz := hfz0.2
                      rw [Nat.add_mul] at hfit
                      obtain ⟨w', e1, e2, e3, e4, e5, e6, e7⟩ := storeCells_ok (P := P) c (o + len * ei.size) el fz y 0 (yy ++ zz) w g1 (by simp; omega) (aones_ok hy1 hones) hfz
                      have hB : BR r ⟨B.cells.take (o + len * ei.size) ++ new ++ B.cells.drop (o + len * ei.size + n * ei.size), true⟩ c ext w' := by
                        refine ⟨_, el, fz, e2, ?_, (.inl ⟨hfz0.1, fun j hj => hfz j (by simp at hj ⊢; omega)⟩), yy.take (o + len * ei.size) ++ y ++ yy.drop (o + len * ei.size + n * ei.size), zz, ?_, ((g4.take _).append hy1).append (g4.drop _)⟩
                        · simp at g2 ⊢; omega
                        · simp only [Nat.add_zero, hy2]
                          rw [List.take_append_of_le_length (by omega), List.drop_append_of_le_length (by omega)]
                          simp
                      obtain ⟨s', x'⟩ := s.write hb hw hr e3 e4 hB e5 e6 e7
                      have := append_room (P := P) (w := w) (ty := ty) (base := some ⟨c, o, none⟩) hC hdt he hdu hlen hy3 hroom (w' := w') (fun a h => by cases h; rw [addr_add]; exact e1) (fun h => by cases h)
                      exact ⟨_, _, r, this, by simp only [VR]; exact ⟨c, ext, _, hr, rfl, rfl⟩, s', x'⟩
                    · cases h
                · rename_i hroom
                  split at h
                  · rename_i hc
                    cases h
                    exact grow (by omega) hc.1 hc.2.1 hc.2.2
                  · cases h
              · rename_i es
                simp only at hcap
                obtain ⟨hcap1, hcap2⟩ := hcap
                split at h
                · rename_i hc
                  obtain ⟨rfl, rfl, hw, hBl, hb1, hb2⟩ := hc
                  cases h
                  by_cases hroom : len + n ≤ k
                  · obtain ⟨cells, el, fz, g1, g2, g3, yy, zz, rfl, g4⟩ := s.blk b B c ext hb hr
                    have hyl := g4.length
                    have hfz0 := g3.resolve_right (by simp [hw])
                    have hfz := hfz0.2
                    have hkk : (len + n) * ei.size ≤ k * ei.size := Nat.mul_le_mul_right _ hroom
                    rw [Nat.add_mul] at hkk
                    obtain ⟨w', e1, e2, e3, e4, e5, e6, e7⟩ := storeCells_ok (P := P) c (0 + len * ei.size) el fz y 0 (yy ++ zz) w g1 (by simp at g2 ⊢; omega) (aones_ok hy1 hones) hfz
                    have hB : BR r ⟨B.cells ++ new, true⟩ c ext w' := by
                      refine ⟨_, el, fz, e2, ?_, (.inl ⟨hfz0.1, fun j hj => hfz j (by simp at hj g2 ⊢; omega)⟩), yy ++ y, (yy ++ zz).drop (len * ei.size + n * ei.size), ?_, g4.append hy1⟩
                      · simp at g2 ⊢; omega
                      · simp only [Nat.add_zero, Nat.zero_add, hy2]
                        rw [List.take_append_of_le_length (by omega), List.take_of_length_le (by omega)]
                    obtain ⟨s', x'⟩ := s.turn hb hw hr e3 e4 hB e5 e6 e7
                    have := append_room (P := P) (w := w) (ty := ty) (base := some ⟨c, 0, none⟩) hC hdt he hdu hlen hy3 hroom (w' := w') (fun a h => by cases h; rw [addr_add]; exact e1) (fun h => by cases h)
                    refine ⟨_, _, _, this, ?_, s', x'⟩
                    simp only [VR]
                    exact ⟨c, ext, k, upd_self _ _ _, rfl, hroom, hcap2⟩
                  · obtain ⟨cc, ww, rr, q1, q2, q3, q4⟩ := grow (by omega) hb1 hb2 (by omega)
                    have hB : (B.cells.drop 0).take (len * ei.size) = B.cells := by rw [List.drop_zero, ← hBl]; exact List.take_length
                    rw [hB] at q3 q4
                    have hsub : ∀ b' B', (H.turn b ⟨B.cells ++ new, true⟩).get b' = some B' → (H.alloc ⟨B.cells ++ new, true⟩).get b' = some B' := by
                      intro b' B' hg
                      rw [Heap.get_turn] at hg
                      rw [Heap.get_alloc]
                      split at hg
                      · rename_i h1; rw [if_pos h1]; exact hg
                      · rename_i h1
                        rw [if_neg h1]
                        split at hg
                        · cases hg
                        · exact hg
                    exact ⟨cc, ww, rr, q1, q2, q3.weaken rfl hsub, q4.weaken rfl hsub⟩
                · cases h
          · cases h
        · cases h
  · cases h

theorem cast_ok (hC : COK P C) (s : Sim P r H w) {t e : TypeId} {ti ei : TI} (ht : C.T t = some ti) (hk : ti.k = .slice e) (he : C.T e = some ei) (hek : ei.k = .int .u8)
    {b o n : Nat} {c : Cap} {B : Blk} (hb : H.get b = some B) (hw : B.wr = true) {u : Value} (hu : VR r (.sl b o n c) u) : Gives P r H w (convert t t u) (.sl b o n c) H := by
  obtain ⟨d1, hd1, hk1⟩ := desc_of hC ht
  obtain ⟨d3, hd3, hk3⟩ := desc_of hC he
  rw [hk] at hk1; rw [hek] at hk3; simp only [KOK] at hk1 hk3; subst hk1 hk3
  have hu' := hu
  simp only [VR] at hu
  obtain ⟨k, ex, q, hr, rfl, hcap⟩ := hu
  obtain ⟨cells, el, fz, g1, g2, g3, g4⟩ := s.blk b B k ex hb hr
  have hsh : w.shape? k = some (el, cells.length) := by simp [World.shape?, g1]
  have hrun : (convert t t (.slice (some ⟨k, o, none⟩) n q)).run P w = .ok (.slice (some ⟨k, o, none⟩) n q) (w.freeze ⟨k, cells.length, none⟩ 1) := by
    simp only [convert, Sem.run_bind, run_under hd1, run_under hd3, Result.andThen_ok, beq_self_eq_true, markStringish, run_shape, hsh, run_freeze, Sem.run_pure]
  have hsz : (w.freeze ⟨k, cells.length, none⟩ 1).heap.size = w.heap.size := by simp [World.freeze]
  have hoth : ∀ j, j ≠ k → (w.freeze ⟨k, cells.length, none⟩ 1).heap[j]? = w.heap[j]? := by
    intro j hj
    simp only [World.freeze, Nat.one_ne_zero, if_false, Array.getElem?_modify]
    rw [if_neg (fun e => hj e.symm)]
  have hself : ∃ fz', (w.freeze ⟨k, cells.length, none⟩ 1).heap[k]? = some (.cells cells.toArray el fz') ∧ ((fz'.1 ≤ fz'.2 ∧ ∀ j, j < cells.length → (fz'.1 ≤ j && j < fz'.2) = false) ∨ B.wr = false) := by
    refine ⟨if fz.1 == fz.2 then (cells.length, cells.length + 1) else (min fz.1 cells.length, max fz.2 (cells.length + 1)), ?_, ?_⟩
    · simp only [World.freeze, Nat.one_ne_zero, if_false, Array.getElem?_modify, if_true, g1, Option.map_some]
    · rcases g3 with ⟨h1, h2⟩ | h
      · left
        split
        · exact ⟨by simp, fun j hj => by simp; omega⟩
        · rename_i hne
          have hne' : fz.1 ≠ fz.2 := by simpa using hne
          have hlo : cells.length ≤ fz.1 := by
            rcases Nat.lt_or_ge fz.1 cells.length with h | h
            · have := h2 fz.1 h
              simp at this; omega
            · exact h
          refine ⟨by simp; omega, fun j hj => ?_⟩
          simp; omega
      · exact .inr h
  obtain ⟨fz', q1, q2⟩ := hself
  have sim : Sim P r H (w.freeze ⟨k, cells.length, none⟩ 1) := by
    refine ⟨fun b' B' c' e' h1 h2 => ?_, s.inj, fun b' c' e' h => by rw [hsz]; exact s.dom b' c' e' h, s.glb⟩
    by_cases hc : c' = k
    · subst hc
      obtain ⟨cells', el', fz2, p1, p2, p3, p4⟩ := s.blk b' B' c' e' h1 h2
      rw [g1] at p1; cases p1
      by_cases hw' : B'.wr = true
      · have := s.inj b' B' b B c' e' ex h1 hw' hb h2 hr
        subst this
        rw [hb] at h1; cases h1
        refine ⟨_, _, fz', q1, p2, q2, ?_⟩
        obtain ⟨x, y, e1, e2⟩ := p4
        exact ⟨x, y, e1, e2⟩
      · refine ⟨_, _, fz', q1, p2, .inr (by simpa using hw'), ?_⟩
        obtain ⟨x, y, e1, e2⟩ := p4
        exact ⟨x, y, e1, e2⟩
    · exact (s.blk b' B' c' e' h1 h2).mono (fun _ _ h => h) (hoth c' hc)
  refine ⟨_, _, r, hrun, hu', sim, ⟨fun _ _ => rfl, Nat.le_refl _, by rw [hsz]; exact Nat.le_refl _, fun j _ hj => hoth j (fun e => hj ⟨b, B, ex, hb, hw, by rw [e]; exact hr⟩), fun _ _ h => h, ?_, ?_, ?_⟩⟩
  all_goals simp [World.freeze]
end
end Go.Abs
namespace Go.Abs
open Go
section
variable {P : Program} {C : Cfg} {r : Ren} {H : Heap} {w : World}

theorem gives_run {s : Sem Value} {v : AV} {H' : Heap} (h : Gives P r H w s v H') : ∃ c w' r', (do pure (.value (← s)) : Sem Next).run P w = .ok (.value c) w' ∧ VR r' v c ∧ Sim P r' H' w' ∧ Ext r H w r' H' w' := by
  obtain ⟨c, w', r', h1, h2, h3, h4⟩ := h
  exact ⟨c, w', r', by simp only [Sem.run_bind, h1, Result.andThen_ok, Sem.run_pure], h2, h3, h4⟩

theorem amake_ok (hC : COK P C) (s : Sim P r H w) {ρ : Operand → Option AV} {σ : Operand → Value} (hρ : ∀ x v, ρ x = some v → VR r v (σ x)) (o : Oper) {v : AV} {H' : Heap}
    (h : amake C H ρ o.op = some (v, H')) : ∃ c w' r', (execOp σ o).run P w = .ok (.value c) w' ∧ VR r' v c ∧ Sim P r' H' w' ∧ Ext r H w r' H' w' := by
  obtain ⟨dst, op, type, pos, after, guard⟩ := o
  cases op with
  | alloc e =>
    simp only [amake] at h
    split at h
    · rename_i ei he; cases h; exact gives_run ((alloc_ok hC he _ _).gives s rfl)
    · cases h
  | box e x =>
    simp only [amake] at h
    split at h
    · rename_i a ha; cases h; exact gives_run ((box_ok (hρ _ _ ha) e _).gives s rfl)
    · cases h
  | buildSlice t len parts =>
    simp only [amake] at h
    split at h
    · rename_i e _ _ _ ps hT hps
      split at h
      · rename_i ei he
        split at h
        · rename_i hc
          split at h
          · rename_i l hl
            cases h
            obtain ⟨k1, k2⟩ := aparts_ok hρ hps
            have hq : (parts.map fun (p : Nat × Operand) => (p.1, σ p.2)).toList = parts.toList.map fun p => (p.1, σ p.2) := by simp
            exact gives_run ((buildSlice_ok hC hT rfl he hc.1 hc.2 (by rw [hq]; exact k1) (by rw [hq]; exact k2) hl _).gives s rfl)
          · cases h
        · cases h
      · cases h
    · cases h
  | makeSlice t len cap =>
    simp only [amake] at h
    split at h
    · rename_i e _ _ _ k l k' c hT hl hc
      split at h
      · rename_i ei he
        split at h
        · rename_i hcc
          cases h
          obtain ⟨c1, c2, c3, c4, c5⟩ := hcc
          have v1 := hρ _ _ hl
          have v2 := hρ _ _ hc
          simp only [VR] at v1 v2
          have := gives_run ((makeSlice_ok (k := k) (k' := k') hC hT rfl he c1 c2 c3 c4 c5 _).gives s rfl)
          simpa only [execOp, v1, v2] using this
        · cases h
      · cases h
    · cases h
  | convert a b x =>
    simp only [amake] at h
    split at h
    · rename_i hab
      subst hab
      split at h
      · rename_i e _ _ _ b o n c h1 h3
        split at h
        · rename_i B he hB
          split at h
          · rename_i hw
            cases h
            exact gives_run (cast_ok hC s h1 rfl he rfl hB hw (hρ _ _ h3))
          · cases h
        · cases h
      · cases h
    · split at h
      · rename_i e _ _ _ l h1 h2 h3
        split at h
        · rename_i he
          cases h
          have v1 := hρ _ _ h3
          simp only [VR] at v1
          have := gives_run ((strbytes_ok hC h1 rfl h2 rfl he rfl l _).gives s rfl)
          simpa only [execOp, v1] using this
        · cases h
      · cases h
  | call c =>
    obtain ⟨callee, args, argTypes⟩ := c
    simp only [amake] at h
    split at h
    · split at h
      · rename_i a x t u ha ht hu
        have hv := aevs_ok hρ ha
        simp only [VRL] at hv
        obtain ⟨p, y, hy, hpv, q, y', rfl, hqv, rfl⟩ := hv
        have e1 : (args.map σ) = #[p, q] := by
          apply Array.toList_inj.1
          simpa using hy
        have hg := append_ok (P := P) (ty := type) hC s hpv hqv h
        obtain ⟨c, w', r', g1, g2, g3, g4⟩ := hg
        refine ⟨c, w', r', ?_, g2, g3, g4⟩
        have hex : (execOp σ ⟨dst, .call ⟨.builtin .append, args, argTypes⟩, type, pos, after, guard⟩).run P w =
            ((do pure (.value (← Builtin.append_ argTypes type (args.map σ))) : Sem Next)).run P w := rfl
        rw [hex]
        have : (Builtin.append_ argTypes type (args.map σ)).run P w = .ok c w' := by
          rw [← g1, e1]
          simp only [Builtin.append_, ht, hu]
          rfl
        simp only [Sem.run_bind, this, Result.andThen_ok, Sem.run_pure]
      · cases h
    · cases h
  | _ => simp [amake] at h
end

/-- A call of a function, as the abstract machine sees it. -/
def SCalls (P : Program) (f : FuncId) (args : List AV) (H : Heap) (Q : AV → Heap → Prop) : Prop :=
  ∀ (r : Ren) (w : World) (cargs : List Value), Sim P r H w → VRL r args cargs →
    ((callFunc f cargs.toArray).run P w = .ok (.enter f cargs.toArray) w ∧
      Calls P f cargs.toArray w (fun e w' => ∃ v H' r' c, Q v H' ∧ e = .returned c ∧ VR r' v c ∧ Sim P r' H' w' ∧ Ext r H w r' H' w')) ∨
    (∃ c w' v H' r', (callFunc f cargs.toArray).run P w = .ok (.value c) w' ∧ Q v H' ∧ VR r' v c ∧ Sim P r' H' w' ∧ Ext r H w r' H' w')

theorem SCalls.mono {P : Program} {f : FuncId} {args : List AV} {H : Heap} {Q Q' : AV → Heap → Prop} (h : SCalls P f args H Q) (hq : ∀ v H', Q v H' → Q' v H') : SCalls P f args H Q' := by
  intro r w cargs s hv
  rcases h r w cargs s hv with ⟨h1, h2⟩ | ⟨c, w', v, H', r', h1, h2, h3⟩
  · exact .inl ⟨h1, h2.mono fun e w' ⟨v, H', r', c, g, k⟩ => ⟨v, H', r', c, hq _ _ g, k⟩⟩
  · exact .inr ⟨c, w', v, H', r', h1, hq _ _ h2, h3⟩

inductive X where
  | nrm
  | ret
  | ex (id : Nat)
def X.exit : X → Exit
  | .nrm => .normal
  | .ret => .ret
  | .ex id => .exit id

def aput (nt : Nat) (dst : Option Tmp) (v : Option AV) (tm : TM) (K : TM → Prop) : Prop :=
  match dst with
  | none => K tm
  | some d => if d < nt then K (tm.put d v) else False

/-- An operation: its value (none: it has none), and the heap behind it. -/
def aopV (P : Program) (C : Cfg) (op : Op) (K : Option AV → Heap → Prop) (ρ : Operand → Option AV) (H : Heap) : Prop :=
  match op with
  | .store t a x =>
    match ρ a, ρ x with
    | some p, some v => match astore C H t p v with | some H' => K none H' | none => False
    | _, _ => False
  | .call ⟨.value f, args, _⟩ =>
    match ρ f, aevs ρ args.toList with
    | some (.fn (.func g) fi ca), some xs => SCalls P g (fi ++ xs ++ ca) H (fun v H' => K (some v) H')
    | _, _ => False
  | op =>
    match aval C H ρ op with
    | some v => K (some v) H
    | none => match amake C H ρ op with | some (v, H') => K (some v) H' | none => False

def aop (P : Program) (C : Cfg) (nt : Nat) (o : Oper) (K : TM → Heap → Prop) (tm : TM) (H : Heap) : Prop :=
  aopV P C o.op (fun v H' => aput nt o.dst v tm (fun tm' => K tm' H')) (aev C tm) H

/-- The continuation of an operation or of code, in the model. -/
def Next' (P : Program) (nt : Nat) (r : Ren) (H : Heap) (w : World) (K : TM → Heap → Prop) (next : Act → World → Prop) : Prop :=
  ∀ tm' H' r' w' a', K tm' H' → TMR r' nt tm' a'.tmps → a'.defers = [] → Sim P r' H' w' → Ext r H w r' H' w' → next a' w'

theorem TMR.mono {r r' : Ren} {nt : Nat} {tm : TM} {t : Array Value} (h : TMR r nt tm t) (hr : r.le r') : TMR r' nt tm t :=
  ⟨h.1, fun j v hj => let ⟨c, h1, h2⟩ := h.2 j v hj; ⟨c, h1, VR.mono hr _ _ h2⟩⟩
theorem TMR.put {r : Ren} {nt : Nat} {tm : TM} {t : Array Value} (h : TMR r nt tm t) {d : Nat} (hd : d < nt) {v : Option AV} {c : Value} (hv : ∀ a, v = some a → VR r a c) :
    TMR r nt (tm.put d v) (t.setIfInBounds d c) := by
  refine ⟨by simp [h.1], fun j a hj => ?_⟩
  rw [Tr.get_put] at hj
  by_cases hjd : d = j
  · subst hjd
    rw [if_pos rfl] at hj
    exact ⟨c, by rw [Array.getElem?_setIfInBounds_self_of_lt (by rw [h.1]; exact hd)], hv a hj⟩
  · rw [if_neg hjd] at hj
    obtain ⟨x, h1, h2⟩ := h.2 j a hj
    exact ⟨x, by rw [Array.getElem?_setIfInBounds_ne hjd]; exact h1, h2⟩

theorem aput_ok {P : Program} {nt : Nat} {r r' : Ren} {H H' : Heap} {w w' : World} {K : TM → Heap → Prop} {next : Act → World → Prop} (hn : Next' P nt r H w K next)
    {tm : TM} {a : Act} (ht : TMR r' nt tm a.tmps) (hd : a.defers = []) (s : Sim P r' H' w') (e : Ext r H w r' H' w') {dst : Option Tmp} {v : Option AV} {c : Value} (hv : ∀ a, v = some a → VR r' a c)
    (h : aput nt dst v tm (fun tm' => K tm' H')) : next (a.put dst c) w' := by
  cases dst with
  | none => exact hn _ _ _ _ _ h ht hd s e
  | some d =>
    simp only [aput] at h
    split at h
    · rename_i hlt
      exact hn _ _ _ _ _ h (ht.put hlt hv) hd s e
    · exact h.elim

theorem aopV_ok {P : Program} {C : Cfg} (hC : COK P C) {o : Oper} {K : Option AV → Heap → Prop} {ρ : Operand → Option AV} {H : Heap} (h : aopV P C o.op K ρ H)
    {r : Ren} {w : World} {a : Act} (s : Sim P r H w) (hρ : ∀ x v, ρ x = some v → VR r v (a.eval x)) {next : Act → World → Prop} {Q : Exit → Act → World → Prop}
    (hn : ∀ v H' r' w' c, K v H' → (∀ a, v = some a → VR r' a c) → Sim P r' H' w' → Ext r H w r' H' w' → next (a.put o.dst c) w') :
    o.wp P a w next Q := by
  have dflt : (match aval C H ρ o.op with
      | some v => K (some v) H
      | none => match amake C H ρ o.op with | some (v, H') => K (some v) H' | none => False) → o.wp P a w next Q := by
    intro h
    unfold Oper.wp
    split at h
    · rename_i v hv
      obtain ⟨c, hc, hcv⟩ := aval_ok hC s hρ o hv
      rw [hc]
      exact hn _ _ _ _ _ h (fun _ e => by cases e; exact hcv) s (Ext.refl _ _ _)
    · split at h
      · rename_i v H' hv
        obtain ⟨c, w', r', hc, hcv, s', e'⟩ := amake_ok hC s hρ o hv
        rw [hc]
        exact hn _ _ _ _ _ h (fun _ e => by cases e; exact hcv) s' e'
      · exact h.elim
  unfold aopV at h
  split at h
  · rename_i t x y hop
    split at h
    · rename_i p v hp hv
      split at h
      · rename_i H' hH
        obtain ⟨w', h1, s', e'⟩ := store_ok hC s (hρ _ _ hp) (hρ _ _ hv) hH
        unfold Oper.wp
        have : (execOp a.eval o).run P w = .ok .skip w' := by
          simp only [execOp, hop, Sem.run_bind, h1, Result.andThen_ok, Sem.run_pure]
        rw [this]
        exact hn _ _ _ _ _ h (fun _ e => by cases e) s' e'
      · exact h.elim
    · exact h.elim
  · rename_i f args at_ hop
    split at h
    · rename_i g fi ca xs hf hxs
      have vf := hρ _ _ hf
      simp only [VR] at vf
      obtain ⟨x, y, hxy, hx, hy⟩ := vf
      have vx := aevs_ok hρ hxs
      have hall : VRL r (fi ++ xs ++ ca) (x ++ args.toList.map a.eval ++ y) := (hx.append vx).append hy
      have hrun : (execOp a.eval o).run P w = (callFunc g (x ++ args.toList.map a.eval ++ y).toArray).run P w := by
        simp only [execOp, hop, resolve, hxy, Deferred.ofValue, Sem.run_bind, Sem.run_pure, Result.andThen_ok, invoke]
        congr 2
        apply Array.toList_inj.1
        simp
      unfold Oper.wp
      rw [hrun]
      rcases h r w _ s hall with ⟨h1, h2⟩ | ⟨c, w', v, H', r', h1, h2, h3, s', e'⟩
      · rw [h1]
        simp only [Oper.upon]
        refine h2.mono ?_
        rintro e w'' ⟨v, H', r', c, hq, rfl, hv, s', e'⟩
        exact hn _ _ _ _ _ hq (fun _ e => by cases e; exact hv) s' e'
      · rw [h1]
        exact hn _ _ _ _ _ h2 (fun _ e => by cases e; exact h3) s' e'
    · exact h.elim
  · exact dflt h

theorem aop_ok {P : Program} {C : Cfg} (hC : COK P C) {nt : Nat} {o : Oper} {K : TM → Heap → Prop} {tm : TM} {H : Heap} (h : aop P C nt o K tm H)
    {r : Ren} {w : World} {a : Act} (s : Sim P r H w) (ht : TMR r nt tm a.tmps) (hd : a.defers = []) {next : Act → World → Prop} {Q : Exit → Act → World → Prop} (hn : Next' P nt r H w K next) :
    o.wp P a w next Q :=
  aopV_ok hC h s (fun _ _ hx => aev_ok hC s ht hx) fun _ _ _ _ _ hK hv s' e' => aput_ok hn (ht.mono (s.le_of_ext e')) hd s' e' hv hK
end Go.Abs
namespace Go.Abs
open Go

theorem aevs_congr {ρ ρ' : Operand → Option AV} : ∀ {l : List Operand}, (∀ x ∈ l, ρ x = ρ' x) → aevs ρ l = aevs ρ' l
  | [], _ => rfl
  | x :: l, h => by
    simp only [aevs]
    rw [h x (List.mem_cons_self ..), aevs_congr fun y hy => h y (List.mem_cons_of_mem _ hy)]
theorem aparts_congr {ρ ρ' : Operand → Option AV} : ∀ {l : List (Nat × Operand)}, (∀ x ∈ l, ρ x.2 = ρ' x.2) → aparts ρ l = aparts ρ' l
  | [], _ => rfl
  | x :: l, h => by
    simp only [aparts]
    rw [h x (List.mem_cons_self ..), aparts_congr fun y hy => h y (List.mem_cons_of_mem _ hy)]

theorem parts_mem {ρ ρ' : Operand → Option AV} {ps : Array (Nat × Operand)} (h : ∀ x ∈ (ps.toList.map (·.2)).toArray, ρ x = ρ' x) : ∀ x ∈ ps.toList, ρ x.2 = ρ' x.2 :=
  fun x hx => h x.2 (by simp only [List.mem_toArray, List.mem_map]; exact ⟨x, hx, rfl⟩)

theorem aval_congr {C : Cfg} {H : Heap} {ρ ρ' : Operand → Option AV} {op : Op} (h : ∀ x ∈ op.operands, ρ x = ρ' x) : aval C H ρ op = aval C H ρ' op := by
  cases op <;> simp only [Op.operands] at h <;> simp only [aval]
  case build t ps => rw [aparts_congr (parts_mem h)]
  case makeFunc f a b =>
    rw [aevs_congr (l := a.toList) fun x hx => h x (by simp at hx ⊢; exact .inl hx), aevs_congr (l := b.toList) fun x hx => h x (by simp at hx ⊢; exact .inr hx)]
  case call c =>
    have : aevs ρ c.args.toList = aevs ρ' c.args.toList := aevs_congr fun x hx => h x (by simp [Call.operands] at hx ⊢; exact .inr hx)
    rw [this]
  case slice t x lo hi mx =>
    cases mx <;> simp only
    have h0 : ρ x = ρ' x := h x (by simp)
    have h1 : ∀ l, lo = some l → ρ l = ρ' l := fun l e => h l (by subst e; simp)
    have h2 : ∀ l, hi = some l → ρ l = ρ' l := fun l e => h l (by subst e; simp)
    rw [h0]
    cases lo <;> cases hi <;> simp_all
  all_goals (first | rfl | (simp_all; done))

theorem amake_congr {C : Cfg} {H : Heap} {ρ ρ' : Operand → Option AV} {op : Op} (h : ∀ x ∈ op.operands, ρ x = ρ' x) : amake C H ρ op = amake C H ρ' op := by
  cases op <;> simp only [Op.operands] at h <;> simp only [amake]
  case buildSlice t n ps => rw [aparts_congr (parts_mem h)]
  case call c =>
    have : aevs ρ c.args.toList = aevs ρ' c.args.toList := aevs_congr fun x hx => h x (by simp [Call.operands] at hx ⊢; exact .inr hx)
    rw [this]
  all_goals (first | rfl | (simp_all; done))

theorem aopV_congr {P : Program} {C : Cfg} {op : Op} {K : Option AV → Heap → Prop} {ρ ρ' : Operand → Option AV} {H : Heap} (h : ∀ x ∈ op.operands, ρ x = ρ' x) (hk : aopV P C op K ρ H) : aopV P C op K ρ' H := by
  have e1 := aval_congr (C := C) (H := H) h
  have e2 := amake_congr (C := C) (H := H) h
  unfold aopV at hk ⊢
  split at hk
  · rename_i t a x
    simp only [Op.operands] at h
    rw [h a (by simp), h x (by simp)] at hk
    exact hk
  · rename_i f args at_
    simp only [Op.operands, Call.operands] at h
    rw [h f (by simp), aevs_congr (l := args.toList) fun x hx => h x (by simp at hx ⊢; exact .inr hx)] at hk
    exact hk
  · rename_i n1 n2
    rw [e1, e2] at hk
    exact hk

/-- The heap is only read where it was: a new block disturbs nothing. -/
def Heap.Sub (H H' : Heap) : Prop := ∀ b x, H.get b = some x → H'.get b = some x
theorem Heap.sub_alloc (H : Heap) (x : Blk) : H.Sub (H.alloc x) := fun b y h => by
  rw [Heap.get_alloc, if_neg (by have := Heap.lt_of_get h; omega)]; exact h

theorem aload_sub {C : Cfg} {H H' : Heap} (h : H.Sub H') {t : TypeId} {b o : Nat} {v : AV} (hv : aload C H t b o = some v) : aload C H' t b o = some v := by
  unfold aload at hv ⊢
  cases hi : C.T t with
  | none => rw [hi] at hv; cases hv
  | some i =>
    cases hb : H.get b with
    | none => rw [hi, hb] at hv; cases hv
    | some B => rw [hi, hb] at hv; rw [h b B hb]; exact hv

theorem aconv_sub {C : Cfg} {H H' : Heap} (h : H.Sub H') {s d : TypeId} {x v : AV} (hv : aconv C H s d x = some v) : aconv C H' s d x = some v := by
  unfold aconv at hv ⊢
  split at hv
  · rename_i si di hs hd
    split at hv
    · exact hv
    · exact hv
    · exact hv
    · split at hv
      · rename_i B he hb
        simp only [he, h _ _ hb]
        exact hv
      · cases hv
    · cases hv
  · cases hv

theorem aval_sub {C : Cfg} {H H' : Heap} (h : H.Sub H') {ρ : Operand → Option AV} {op : Op} {v : AV} (hv : aval C H ρ op = some v) : aval C H' ρ op = some v := by
  cases op <;> simp only [aval] at hv ⊢
  case load t a =>
    split at hv
    · exact aload_sub h hv
    · cases hv
  case convert s d x =>
    split at hv
    · exact aconv_sub h hv
    · cases hv
  case slice t x lo hi mx => cases mx <;> exact hv
  all_goals exact hv

/-- Operations whose value hangs on no memory. -/
def pureOp : Op → Bool
  | .load _ _ => false
  | .convert _ _ _ => false
  | _ => true
theorem aval_pure {C : Cfg} {H H' : Heap} {ρ : Operand → Option AV} {op : Op} (hp : pureOp op = true) : aval C H ρ op = aval C H' ρ op := by
  cases op <;> first | (cases hp; done) | rfl | (rename_i mx; cases mx <;> rfl)
end Go.Abs
namespace Go.Abs
open Go

def maker : Op → Bool
  | .alloc _ => true
  | .box _ _ => true
  | .buildSlice _ _ _ => true
  | .makeSlice _ _ _ => true
  | .convert s d _ => !(s == d)
  | _ => false
def mild : Op → Bool
  | .move _ => true
  | .assign _ => true
  | .pick _ _ _ => true
  | .build _ _ => true
  | .load _ _ => true
  | .nilCheck _ => true
  | .binOp _ _ _ _ _ => true
  | .unOp _ _ _ => true
  | .convert s d _ => !(s == d)
  | .slice _ _ _ _ _ => true
  | .fieldAddr _ _ _ => true
  | .field _ _ _ => true
  | .indexAddr _ _ _ => true
  | .index _ _ _ => true
  | .extract _ _ => true
  | .makeFunc _ _ _ => true
  | .alloc _ => true
  | .box _ _ => true
  | .buildSlice _ _ _ => true
  | .makeSlice _ _ _ => true
  | .call c => match c.callee with | .builtin .len => true | .builtin .min => true | .builtin .max => true | _ => false
  | _ => false

/-- What a maker makes, apart from where it lies. -/
def mk (C : Cfg) (ρ : Operand → Option AV) (op : Op) : Option (AV × Blk) :=
  bif maker op then (match amake C ⟨0, .l⟩ ρ op with | some (v, H) => (H.get 0).map fun B => (v, B) | none => none) else none

theorem amake_mk {C : Cfg} {H : Heap} {ρ : Operand → Option AV} {op : Op} (hm : maker op = true) {v : AV} {H' : Heap} (h : amake C H ρ op = some (v, H')) :
    ∃ B u, mk C ρ op = some (u, B) ∧ H' = H.alloc B ∧ v = u.rebase H.next := by
  have g0 : ∀ B : Blk, (Heap.alloc ⟨0, .l⟩ B).get 0 = some B := fun B => by rw [Heap.get_alloc]; rfl
  unfold mk
  rw [hm]
  simp only [cond_true]
  cases op <;> first | (cases hm; done) | skip
  case convert s d x =>
    have hne : ¬ s = d := by simpa [maker] using hm
    simp only [amake, if_neg hne] at h ⊢
    repeat' (split at h <;> first | (cases h; done) | skip)
    cases h
    simp_all
    exact ⟨_, _, ⟨rfl, rfl⟩, rfl, rfl⟩
  all_goals
    simp only [amake] at h ⊢
    repeat' (split at h <;> first | (cases h; done) | skip)
    cases h
    simp_all
    exact ⟨_, _, ⟨rfl, rfl⟩, rfl, rfl⟩

theorem mk_blk {C : Cfg} {ρ : Operand → Option AV} {op : Op} {v : AV} {B : Blk} (h : Go.Abs.mk C ρ op = some (v, B)) : maker op = true ∧ ((∃ b o, v = .p b o) ∨ ∃ b o n c, v = .sl b o n c) := by
  unfold Go.Abs.mk at h
  cases hmk : maker op with
  | false => rw [hmk] at h; cases h
  | true =>
    refine ⟨rfl, ?_⟩
    rw [hmk] at h
    simp only [cond_true] at h
    split at h
    · rename_i u H' hv
      cases hg : H'.get 0 with
      | none => rw [hg] at h; cases h
      | some B' =>
        rw [hg] at h; cases h
        cases op <;> first | (cases hmk; done) | skip
        case convert s d x =>
          have hne : ¬ s = d := by simpa [maker] using hmk
          simp only [amake, if_neg hne] at hv
          repeat' (split at hv <;> first | (cases hv; done) | skip)
          cases hv
          exact .inr ⟨_, _, _, _, rfl⟩
        all_goals
          simp only [amake] at hv
          repeat' (split at hv <;> first | (cases hv; done) | skip)
          cases hv
          first | exact .inl ⟨_, _, rfl⟩ | exact .inr ⟨_, _, _, _, rfl⟩
    · cases h

section
variable {P : Program} {C : Cfg} {r : Ren} {w : World}

theorem Makes.next {s : Sem Value} {v : AV} {B : Blk} (h : Makes P r w s v B) :
    ∃ (n : Nat) (x y : List Value) (el : TypeId) (fz : Nat × Nat) (c : Value), (do pure (.value (← s)) : Sem Next).run P w = .ok (.value c) (World.alloc { w with drawn := n } (.cells (x ++ y).toArray el fz)) ∧ VRL r B.cells x ∧ B.wr = true ∧
    (fz.1 ≤ fz.2 ∧ ∀ j, j < (x ++ y).length → (fz.1 ≤ j && j < fz.2) = false) ∧ ∀ (r' : Ren) (b : Nat), r' b = some (w.heap.size, (x ++ y).length) → VR r' (v.rebase b) c := by
  obtain ⟨n, x, y, el, fz, c, h1, h2⟩ := h
  exact ⟨n, x, y, el, fz, c, by simp only [Sem.run_bind, h1, Result.andThen_ok, Sem.run_pure], h2⟩

theorem mk_exec (hC : COK P C) {ρ : Operand → Option AV} {σ : Operand → Value} (hρ : ∀ x v, ρ x = some v → VR r v (σ x)) (o : Oper) {v : AV} {B : Blk}
    (h : mk C ρ o.op = some (v, B)) :
    ∃ (n : Nat) (x y : List Value) (el : TypeId) (fz : Nat × Nat) (c : Value), (execOp σ o).run P w = .ok (.value c) (World.alloc { w with drawn := n } (.cells (x ++ y).toArray el fz)) ∧ VRL r B.cells x ∧ B.wr = true ∧
    (fz.1 ≤ fz.2 ∧ ∀ j, j < (x ++ y).length → (fz.1 ≤ j && j < fz.2) = false) ∧ ∀ (r' : Ren) (b : Nat), r' b = some (w.heap.size, (x ++ y).length) → VR r' (v.rebase b) c := by
  have g0 : ∀ B : Blk, (Heap.alloc ⟨0, .l⟩ B).get 0 = some B := fun B => by rw [Heap.get_alloc]; rfl
  obtain ⟨dst, op, type, pos, after, guard⟩ := o
  simp only [mk, Bool.cond_eq_ite] at h
  split at h
  · rename_i hm
    split at h
    · rename_i u H' hu
      cases hB : H'.get 0 with
      | none => rw [hB] at h; cases h
      | some B' =>
        rw [hB] at h; cases h
        cases op <;> try (cases hm; done)
        case alloc e =>
          simp only [amake] at hu
          split at hu
          · rename_i ei he; cases hu; rw [g0] at hB; cases hB; exact (alloc_ok hC he _ _).next
          · cases hu
        case box e x =>
          simp only [amake] at hu
          split at hu
          · rename_i a ha; cases hu; rw [g0] at hB; cases hB; exact (box_ok (hρ _ _ ha) e _).next
          · cases hu
        case buildSlice t len parts =>
          simp only [amake] at hu
          split at hu
          · rename_i e _ _ _ ps hT hps
            split at hu
            · rename_i ei he
              split at hu
              · rename_i hc
                split at hu
                · rename_i l hl
                  cases hu; rw [g0] at hB; cases hB
                  obtain ⟨k1, k2⟩ := aparts_ok hρ hps
                  have hq : (parts.map fun (p : Nat × Operand) => (p.1, σ p.2)).toList = parts.toList.map fun p => (p.1, σ p.2) := by simp
                  exact (buildSlice_ok hC hT rfl he hc.1 hc.2 (by rw [hq]; exact k1) (by rw [hq]; exact k2) hl _).next
                · cases hu
              · cases hu
            · cases hu
          · cases hu
        case makeSlice t len cap =>
          simp only [amake] at hu
          split at hu
          · rename_i e _ _ _ k l k' c hT hl hc
            split at hu
            · rename_i ei he
              split at hu
              · rename_i hcc
                cases hu; rw [g0] at hB; cases hB
                obtain ⟨c1, c2, c3, c4, c5⟩ := hcc
                have v1 := hρ _ _ hl
                have v2 := hρ _ _ hc
                simp only [VR] at v1 v2
                have := (makeSlice_ok (P := P) (r := r) (w := w) (k := k) (k' := k') hC hT rfl he c1 c2 c3 c4 c5 0).next
                simpa only [execOp, v1, v2] using this
              · cases hu
            · cases hu
          · cases hu
        case convert a b x =>
          have hne : ¬ a = b := by simpa [maker] using hm
          simp only [amake, if_neg hne] at hu
          split at hu
          · rename_i e _ _ _ l h1 h2 h3
            split at hu
            · rename_i he
              cases hu; rw [g0] at hB; cases hB
              have v1 := hρ _ _ h3
              simp only [VR] at v1
              have := (strbytes_ok (P := P) (r := r) (w := w) hC h1 rfl h2 rfl he rfl l 0).next
              simpa only [execOp, v1] using this
            · cases hu
          · cases hu
    · cases h
  · cases h
end

theorem mk_congr {C : Cfg} {ρ ρ' : Operand → Option AV} {op : Op} (h : ∀ x ∈ op.operands, ρ x = ρ' x) : mk C ρ op = mk C ρ' op := by
  unfold mk; rw [amake_congr h]

theorem maker_of_mild {C : Cfg} {H : Heap} {ρ : Operand → Option AV} {op : Op} {x : AV × Heap} (hm : mild op = true) (h : amake C H ρ op = some x) : maker op = true := by
  cases op
  case call c =>
    exfalso
    obtain ⟨callee, args, at_⟩ := c
    cases callee
    case builtin b => cases b <;> first | (simp [mild] at hm; done) | (simp [amake] at h; done)
    all_goals simp [mild] at hm
  case convert s d x => exact hm
  all_goals first | rfl | (simp [amake] at h; done)

/-- A mild operation is a value, or a new block. -/
theorem mild_cases {P : Program} {C : Cfg} {op : Op} (hm : mild op = true) {K : Option AV → Heap → Prop} {ρ : Operand → Option AV} {H : Heap} (h : aopV P C op K ρ H) :
    (∃ v, aval C H ρ op = some v ∧ K (some v) H) ∨ (∃ u B, mk C ρ op = some (u, B) ∧ K (some (u.rebase H.next)) (H.alloc B)) := by
  unfold aopV at h
  split at h
  · cases hm
  · cases hm
  · split at h
    · rename_i v hv; exact .inl ⟨v, hv, h⟩
    · split at h
      · rename_i v H' hv
        have hmk : maker op = true := maker_of_mild hm hv
        obtain ⟨B, u, h1, rfl, rfl⟩ := amake_mk hmk hv
        exact .inr ⟨u, B, h1, h⟩
      · exact h.elim
end Go.Abs
namespace Go.Abs
open Go

/-- An operation of the order: its number, the operations that stand before it (a mask), and those that are looked at again behind it. -/
abbrev DI := Nat × Nat × List Nat × Bool

def gval (ops : Array Oper) (tm : TM) (o : Oper) : Option Bool :=
  match o.guard with
  | none => some true
  | some (g, want) => match ((ops[g]?).bind (·.dst)).bind tm.get with | some (.b x) => some (x == want) | some (.tu []) => some false | _ => none

/-- An operation gives again what it gave. -/
def remake (C : Cfg) (tm : TM) (H : Heap) (o : Oper) : Prop :=
  match aval C H (aev C tm) o.op with
  | some v => match o.dst with | some d => tm.get d = some v | none => True
  | none =>
    match mk C (aev C tm) o.op, o.dst with
    | some (v, B), some d => ∃ b, H.get b = some B ∧ tm.get d = some (v.rebase b)
    | _, _ => False

def achk (C : Cfg) (ops : Array Oper) (tm : TM) (H : Heap) : List Nat → Prop
  | [] => True
  | j :: l => (match ops[j]? with | some o => (gval ops tm o = some false ∨ (gval ops tm o = some true ∧ remake C tm H o)) | none => False) ∧ achk C ops tm H l

def adraw (P : Program) (C : Cfg) (nt : Nat) (ops : Array Oper) (K : TM → Heap → Prop) : List DI → TM → Heap → Prop
  | [], tm, H => K tm H
  | x :: rest, tm, H =>
    match ops[x.1]? with
    | none => False
    | some o =>
      match gval ops tm o with
      | some true => aop P C nt o (fun tm' H' => achk C ops tm' H' x.2.2.1 ∧ adraw P C nt ops K rest tm' H') tm H
      | some false => aput nt o.dst (some (.tu [])) tm (fun tm' => achk C ops tm' H x.2.2.1 ∧ adraw P C nt ops K rest tm' H)
      | none => False

def depsOf (o : Oper) : List Nat := (o.after.toList.filter (Region.binds .any ·)).map (·.on)
def opAt (ops : Array Oper) (i : Nat) : Oper := ops.getD i default
def mkr (o : Oper) : Bool := maker o.op
/-- May it be done as early as its operands are there? -/
def lm (ops : Array Oper) (x : DI) : Bool := mild (opAt ops x.1).op && !x.2.2.2

/-- One operation of the order, behind those that stand ahead of it. -/
def vone (ops : Array Oper) (pre : List DI) (x : DI) : Bool :=
  let o := opAt ops x.1
  Nat.blt x.1 ops.size && !(pre.any fun y => y.1 == x.1) &&
  (depsOf o).all (fun d => pre.any fun y => y.1 == d) &&
  (List.range ops.size).all (fun j => !x.2.1.testBit j || (depsOf o).any fun d => d == j || pre.any fun y => y.1 == d && y.2.1.testBit j) &&
  (o.looksAt ops).all (fun t => pre.all fun y => (opAt ops y.1).dst != some t || x.2.1.testBit y.1) &&
  pre.all (fun y => lm ops y || x.2.1.testBit y.1) &&
  (lm ops x || pre.all fun y => pureOp (opAt ops y.1).op && !mkr (opAt ops y.1) || x.2.1.testBit y.1 || x.2.2.1.contains y.1) &&
  (match o.dst with | some d => pre.all fun y => (opAt ops y.1).dst != some d | none => !mkr o) &&
  (lm ops x && x.2.2.1.isEmpty || !lm ops x) &&
  Nat.blt x.2.1 (2 ^ ops.size) &&
  (match o.dst with | some d => !(o.looksAt ops).contains d && pre.all fun y => !((opAt ops y.1).looksAt ops).contains d || (!lm ops x && x.2.1.testBit y.1) | none => true)
def vgo (ops : Array Oper) : List DI → List DI → Bool
  | _, [] => true
  | pre, x :: post => vone ops pre x && vgo ops (x :: pre) post
def vdraw (ops : Array Oper) (l : List DI) : Bool := (List.range ops.size).all (fun i => l.any fun x => x.1 == i) && vgo ops [] l

structure VOne (ops : Array Oper) (pre : List DI) (x : DI) : Prop where
  lt : x.1 < ops.size
  new : ∀ y ∈ pre, y.1 ≠ x.1
  deps : ∀ d ∈ depsOf (opAt ops x.1), ∃ y ∈ pre, y.1 = d
  mask : ∀ j, x.2.1.testBit j = true → ∃ d ∈ depsOf (opAt ops x.1), d = j ∨ ∃ y ∈ pre, y.1 = d ∧ y.2.1.testBit j = true
  reads : ∀ t ∈ (opAt ops x.1).looksAt ops, ∀ y ∈ pre, (opAt ops y.1).dst = some t → x.2.1.testBit y.1 = true
  loud : ∀ y ∈ pre, lm ops y = false → x.2.1.testBit y.1 = true
  chk : lm ops x = false → ∀ y ∈ pre, pureOp (opAt ops y.1).op = false ∨ mkr (opAt ops y.1) = true → x.2.1.testBit y.1 = false → y.1 ∈ x.2.2.1
  dst : ∀ d, (opAt ops x.1).dst = some d → ∀ y ∈ pre, (opAt ops y.1).dst ≠ some d
  mdst : mkr (opAt ops x.1) = true → (opAt ops x.1).dst.isSome = true
  none : lm ops x = true → x.2.2.1 = []
  own : ∀ d, (opAt ops x.1).dst = some d → d ∉ (opAt ops x.1).looksAt ops
  anti : ∀ d, (opAt ops x.1).dst = some d → ∀ y ∈ pre, d ∈ (opAt ops y.1).looksAt ops → lm ops x = false ∧ x.2.1.testBit y.1 = true

theorem vone_ok {ops : Array Oper} {pre : List DI} {x : DI} (h : vone ops pre x = true) : VOne ops pre x := by
  simp only [vone, Bool.and_eq_true] at h
  obtain ⟨⟨⟨⟨⟨⟨⟨⟨⟨⟨h1, h2⟩, h3⟩, h4⟩, h5⟩, h6⟩, h7⟩, h8⟩, h9⟩, h10⟩, h11⟩ := h
  have hlt : x.1 < ops.size := by simpa [Nat.blt_eq] using h1
  refine ⟨hlt, ?_, ?_, ?_, ?_, ?_, ?_, ?_, ?_, ?_, ?_, ?_⟩
  · intro y hy he
    simp only [Bool.not_eq_true', List.any_eq_false, beq_iff_eq] at h2
    exact h2 y hy he
  · intro d hd
    have := List.all_eq_true.1 h3 d hd
    simpa using this
  · intro j hj
    have hjn : j < ops.size := by
      rcases Nat.lt_or_ge j ops.size with h | h
      · exact h
      · have h10' : x.2.1 < 2 ^ ops.size := by simpa [Nat.blt_eq] using h10
        have : x.2.1 < 2 ^ j := Nat.lt_of_lt_of_le h10' (Nat.pow_le_pow_right (by omega) h)
        rw [Nat.testBit_lt_two_pow this] at hj; cases hj
    have := List.all_eq_true.1 h4 j (List.mem_range.2 hjn)
    simp only [hj, Bool.not_true, Bool.false_or, List.any_eq_true, Bool.or_eq_true, beq_iff_eq, Bool.and_eq_true] at this
    obtain ⟨d, hd, h⟩ := this
    exact ⟨d, hd, h.imp id fun ⟨y, a, b, c⟩ => ⟨y, a, b, c⟩⟩
  · intro t ht y hy he
    have := List.all_eq_true.1 (List.all_eq_true.1 h5 t ht) y hy
    simpa [he] using this
  · intro y hy hm
    have := List.all_eq_true.1 h6 y hy
    simpa [hm] using this
  · intro hm y hy hp ht
    simp only [hm, Bool.false_or] at h7
    have := List.all_eq_true.1 h7 y hy
    simp only [ht, Bool.or_false, Bool.or_eq_true, Bool.and_eq_true, Bool.not_eq_true', List.contains_iff_mem] at this
    rcases this with ⟨a, b⟩ | h
    · rcases hp with hp | hp
      · rw [hp] at a; cases a
      · rw [hp] at b; cases b
    · exact h
  · intro d hd y hy he
    rw [hd] at h8
    have := List.all_eq_true.1 h8 y hy
    simp [he] at this
  · intro hm
    cases hd : (opAt ops x.1).dst with
    | none => rw [hd] at h8; simp [hm] at h8
    | some d => rfl
  · intro hm
    simp only [hm, Bool.true_and, Bool.not_true, Bool.or_false, List.isEmpty_iff] at h9
    exact h9
  · intro d hd hm
    rw [hd] at h11
    simp [hm] at h11
  · intro d hd y hy hm
    rw [hd] at h11
    simp only [Bool.and_eq_true] at h11
    have := List.all_eq_true.1 h11.2 y hy
    simpa [hm] using this

/-- Closed sets of operations. -/
def Closed (ops : Array Oper) (D : Nat → Prop) : Prop := ∀ i, D i → ∀ d ∈ depsOf (opAt ops i), D d
def MaskOK (ops : Array Oper) (x : DI) : Prop := ∀ D : Nat → Prop, Closed ops D → (∀ d ∈ depsOf (opAt ops x.1), D d) → ∀ j, x.2.1.testBit j = true → D j
def MaskIn (pre : List DI) (x : DI) : Prop := ∀ j, x.2.1.testBit j = true → ∃ y ∈ pre, y.1 = j

theorem maskOK_of {ops : Array Oper} {pre : List DI} {x : DI} (h : VOne ops pre x) (hp : ∀ y ∈ pre, MaskOK ops y) : MaskOK ops x := by
  intro D hc hd j hj
  obtain ⟨d, hdx, h⟩ := h.mask j hj
  rcases h with rfl | ⟨y, hy, rfl, hyj⟩
  · exact hd d hdx
  · exact hp y hy D hc (hc y.1 (hd y.1 hdx)) j hyj
theorem maskIn_of {ops : Array Oper} {pre : List DI} {x : DI} (h : VOne ops pre x) (hp : ∀ y ∈ pre, MaskIn pre y) : MaskIn pre x := by
  intro j hj
  obtain ⟨d, hdx, h'⟩ := h.mask j hj
  rcases h' with rfl | ⟨y, hy, rfl, hyj⟩
  · exact h.deps d hdx
  · exact hp y hy j hyj

theorem vgo_later {ops : Array Oper} : ∀ {post pre : List DI}, vgo ops pre post = true → (∀ y ∈ pre, MaskOK ops y) → ∀ x ∈ post, MaskOK ops x ∧ ∀ y ∈ pre, lm ops y = false → x.2.1.testBit y.1 = true
  | [], _, _, _, _, hx => by cases hx
  | z :: post, pre, h, hp, x, hx => by
    simp only [vgo, Bool.and_eq_true] at h
    have hz := vone_ok h.1
    have hzm := maskOK_of hz hp
    rcases List.mem_cons.1 hx with rfl | hx
    · exact ⟨hzm, hz.loud⟩
    · obtain ⟨a, b⟩ := vgo_later h.2 (fun y hy => by rcases List.mem_cons.1 hy with rfl | hy; exact hzm; exact hp y hy) x hx
      exact ⟨a, fun y hy => b y (List.mem_cons_of_mem _ hy)⟩
end Go.Abs
