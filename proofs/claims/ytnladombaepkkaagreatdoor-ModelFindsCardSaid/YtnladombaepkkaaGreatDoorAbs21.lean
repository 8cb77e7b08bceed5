/- The abstract machine: code, and the theorem that what it answers is what the model answers. Conditions: none. -/
import Derived.Test.YtnladombaepkkaaGreatDoorAbs20
set_option linter.all false
namespace Go.Abs
open Go
section
variable {P : Program} {C : Cfg} {nt : Nat} {ops : Array Oper}

def cnt (ops : Array Oper) (listed : Array Bool) : Nat := (List.range ops.size).countP fun i => !listed.getD i false
theorem countP_lt {α : Type} {p q : α → Bool} : ∀ {l : List α}, (∀ x ∈ l, q x = true → p x = true) → (∃ x ∈ l, p x = true ∧ q x = false) → l.countP q < l.countP p
  | [], _, h => by obtain ⟨x, hx, _⟩ := h; cases hx
  | a :: l, h1, h2 => by
    have hle : l.countP q ≤ l.countP p := List.countP_mono_left fun x hx => h1 x (List.mem_cons_of_mem _ hx)
    obtain ⟨x, hx, hp, hq⟩ := h2
    rw [List.countP_cons, List.countP_cons]
    rcases List.mem_cons.1 hx with rfl | hx
    · rw [hp, hq]; simp; omega
    · have ih := countP_lt (fun x hx => h1 x (List.mem_cons_of_mem _ hx)) ⟨x, hx, hp, hq⟩
      have : (if q a = true then 1 else 0) ≤ if p a = true then 1 else 0 := by
        by_cases h : q a = true
        · rw [if_pos h, if_pos (h1 a (List.mem_cons_self ..) h)]; omega
        · rw [if_neg h]; omega
      omega
theorem cnt_set {listed : Array Bool} {i : Nat} (hs : listed.size = ops.size) (hi : i < ops.size) (hl : listed.getD i false = false) : cnt ops (listed.setIfInBounds i true) < cnt ops listed := by
  refine countP_lt (fun x hx h => ?_) ⟨i, List.mem_range.2 hi, by simp [hl], by rw [getD_set.2 (.inl ⟨rfl, by omega⟩)]; rfl⟩
  cases h2 : listed.getD x false with
  | false => rfl
  | true => rw [getD_set.2 (.inr h2)] at h; cases h

theorem ready_mem {listed : Array Bool} (hs : listed.size = ops.size) {i : Nat} : i ∈ Region.ready .any ops listed ↔ i < ops.size ∧ listed.getD i false = false ∧ ∀ d ∈ depsOf (opAt ops i), listed.getD d false = true := by
  unfold Region.ready
  rw [List.mem_filter, List.mem_range]
  constructor
  · rintro ⟨h1, h2⟩
    rw [Bool.and_eq_true, opAt_get h1] at h2
    obtain ⟨h2, h3⟩ := h2
    refine ⟨h1, ?_, ?_⟩
    · have : listed.getD i true = listed.getD i false := by simp [Array.getD, hs, h1]
      rw [← this]; simpa using h2
    · intro d hd
      simp only [depsOf, List.mem_map, List.mem_filter] at hd
      obtain ⟨e, ⟨he, hb⟩, rfl⟩ := hd
      simp only [Option.map_some, Option.getD_some, Array.all_eq_true_iff_forall_mem] at h3
      have := h3 e (by simpa using he)
      simpa [hb] using this
  · rintro ⟨h1, h2, h3⟩
    refine ⟨h1, ?_⟩
    rw [Bool.and_eq_true, opAt_get h1]
    refine ⟨?_, ?_⟩
    · have : listed.getD i true = listed.getD i false := by simp [Array.getD, hs, h1]
      rw [this, h2]; rfl
    · simp only [Option.map_some, Option.getD_some, Array.all_eq_true_iff_forall_mem]
      intro e he
      cases hb : Region.binds .any e with
      | false => rfl
      | true =>
        have := h3 e.on (by simp only [depsOf, List.mem_map, List.mem_filter]; exact ⟨e, ⟨by simpa using he, hb⟩, rfl⟩)
        simpa using this

variable {r0 : Ren} {H0 : Heap} {w0 : World}

theorem built_listed {listed : Array Bool} (hs : listed.size = ops.size) (hr : Region.ready .any ops listed = []) : ∀ {l : List DI}, Built ops l → ∀ x ∈ l, listed.getD x.1 false = true
  | [], _, x, hx => by cases hx
  | z :: l, h, x, hx => by
    rcases List.mem_cons.1 hx with rfl | hx
    · cases hl : listed.getD x.1 false with
      | true => rfl
      | false =>
        have : x.1 ∈ Region.ready .any ops listed := (ready_mem hs).2 ⟨h.1.lt, hl, fun d hd => by
          obtain ⟨y, hy, rfl⟩ := h.1.deps d hd
          exact built_listed hs hr h.2 y hy⟩
        rw [hr] at this; cases this
    · exact built_listed hs hr h.2 x hx

theorem draw_go (hC : COK P C) {K : TM → Heap → Prop} {Q : Exit → Act → World → Prop}
    (hq : ∀ tm' H' r' w' a', K tm' H' → TMR r' nt tm' a'.tmps → a'.defers = [] → Sim P r' H' w' → Ext r0 H0 w0 r' H' w' → Q .normal a' w') :
    ∀ (fuel : Nat) {done rem : List DI} {r : Ren} {tm : TM} {H : Heap} {listed : Array Bool} {a : Act} {w : World}, cnt ops listed ≤ fuel → Inv P C nt ops r0 H0 w0 done r tm H listed a w → vgo ops done rem = true →
      adraw P C nt ops K rem tm H → (∀ i, i < ops.size → (∃ x ∈ done, x.1 = i) ∨ ∃ x ∈ rem, x.1 = i) → wpAny P .any ops Q fuel listed a w := by
  intro fuel
  induction fuel with
  | zero =>
    intro done rem r tm H listed a w hcnt I hv hd hall
    have hr : Region.ready .any ops listed = [] := by
      apply List.eq_nil_iff_forall_not_mem.2
      intro i hi
      obtain ⟨h1, h2, _⟩ := (ready_mem I.size).1 hi
      have : 0 < cnt ops listed := List.countP_pos_iff.2 ⟨i, List.mem_range.2 h1, by simp [h2]⟩
      omega
    obtain ⟨done', rem', tm', H', I', hv', hd', hl', hall'⟩ := I.advance rem hv hd
    refine ⟨hr, ?_⟩
    have hlist := built_listed I.size hr I'.built
    cases rem' with
    | nil =>
      exact hq tm' H' r w a hd' ⟨I'.tms.1, fun j v hj => I'.tms.2 j v hj fun y hy _ => hlist y hy⟩ I'.defs I'.sim I'.ext
    | cons x rest =>
      exfalso
      simp only [vgo, Bool.and_eq_true] at hv'
      have hx := vone_ok hv'.1
      have hnl : listed.getD x.1 false = false := by
        cases h : listed.getD x.1 false with
        | false => rfl
        | true => obtain ⟨y, hy, e⟩ := I'.sub _ h; exact absurd e (hx.new y hy)
      have : 0 < cnt ops listed := List.countP_pos_iff.2 ⟨x.1, List.mem_range.2 hx.lt, by simp [hnl]⟩
      omega
  | succ fuel ih =>
    intro done rem r tm H listed a w hcnt I hv hd hall
    obtain ⟨done', rem', tm', H', I', hv', hd', hl', hall'⟩ := I.advance rem hv hd
    refine ⟨fun hr => ?_, ?_⟩
    · have hlist := built_listed I.size hr I'.built
      cases rem' with
      | nil =>
        exact hq tm' H' r w a hd' ⟨I'.tms.1, fun j v hj => I'.tms.2 j v hj fun y hy _ => hlist y hy⟩ I'.defs I'.sim I'.ext
      | cons x rest =>
        exfalso
        simp only [vgo, Bool.and_eq_true] at hv'
        have hx := vone_ok hv'.1
        have hnl : listed.getD x.1 false = false := by
          cases h : listed.getD x.1 false with
          | false => rfl
          | true => obtain ⟨y, hy, e⟩ := I'.sub _ h; exact absurd e (hx.new y hy)
        have : x.1 ∈ Region.ready .any ops listed := (ready_mem I.size).2 ⟨hx.lt, hnl, fun d hd => by
          obtain ⟨y, hy, rfl⟩ := hx.deps d hd
          exact hlist y hy⟩
        rw [hr] at this; cases this
    · intro i hi
      obtain ⟨hin, hl, hdeps⟩ := (ready_mem I.size).1 hi
      have hlt := cnt_set I.size hin hl
      rcases hall' i (hall i hin) with ⟨x, hx, rfl⟩ | ⟨x, hx, rfl⟩
      · exact I'.exec hC hx hl hdeps fun a' w' r' I'' => ih (by omega) I'' hv' hd' (fun j hj => hall' j (hall j hj))
      · cases rem' with
        | nil => cases hx
        | cons z rest =>
          have hz := hl' z rest rfl
          have hv'' := hv'
          simp only [vgo, Bool.and_eq_true] at hv''
          have hzv := vone_ok hv''.1
          rcases List.mem_cons.1 hx with rfl | hx
          · refine I'.loud hC hzv hz hdeps hd' fun tm2 H2 a2 w2 r2 I2 hd2 => ih (by omega) I2 hv''.2 hd2 fun j hj => ?_
            rcases hall' j (hall j hj) with ⟨y, hy, e⟩ | ⟨y, hy, e⟩
            · exact .inl ⟨y, List.mem_cons_of_mem _ hy, e⟩
            · rcases List.mem_cons.1 hy with rfl | hy
              · exact .inl ⟨y, List.mem_cons_self .., e⟩
              · exact .inr ⟨y, hy, e⟩
          · exfalso
            obtain ⟨hm, hb⟩ := vgo_later hv''.2 (fun y hy => by rcases List.mem_cons.1 hy with rfl | hy; exact maskOK_of hzv I'.mok; exact I'.mok y hy) x hx
            have hzl : listed.getD z.1 false = true := hm _ I.clo hdeps z.1 (hb z (List.mem_cons_self ..) hz)
            obtain ⟨y, hy, e⟩ := I'.sub _ hzl
            exact hzv.new y hy e

theorem draw_ok (hC : COK P C) {info : List DI} (hv : vdraw ops info = true) {K : TM → Heap → Prop} {r : Ren} {H : Heap} {w : World} {a : Act} {tm : TM} (h : adraw P C nt ops K info tm H) (s : Sim P r H w) (ht : TMR r nt tm a.tmps) (hd : a.defers = [])
    {Q : Exit → Act → World → Prop} (hq : ∀ tm' H' r' w' a', K tm' H' → TMR r' nt tm' a'.tmps → a'.defers = [] → Sim P r' H' w' → Ext r H w r' H' w' → Q .normal a' w') :
    wpAny P .any ops Q ops.size (Array.replicate ops.size false) a { w with drawn := w.drawn + 1 } := by
  simp only [vdraw, Bool.and_eq_true] at hv
  have hrep : ∀ i, (Array.replicate ops.size false).getD i false = false := fun i => by simp [Array.getD]
  refine draw_go hC hq ops.size (done := []) (rem := info) (r := r) (tm := tm) (H := H) ?_ ?_ hv.2 h ?_
  · exact Nat.le_trans List.countP_le_length (by simp)
  · refine ⟨s.drew _, Ext.drew _ _ _ _, hd, by simp, ht.tmd, fun i hi => ?_, fun i hi => ?_, trivial, ?_, ?_, ?_, ?_, ?_, ?_, ?_⟩
    · rw [hrep] at hi; cases hi
    · simp only [hrep] at hi; cases hi
    all_goals (intro x hx; cases hx)
  · intro i hi
    have := List.all_eq_true.1 hv.1 i (List.mem_range.2 hi)
    exact .inr (by simpa using this)
end
end Go.Abs
