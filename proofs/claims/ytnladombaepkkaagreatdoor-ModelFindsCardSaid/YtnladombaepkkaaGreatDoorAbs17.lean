/- The abstract machine: the theorem on regions that draw their order. Conditions: none. -/
import Derived.Test.YtnladombaepkkaaGreatDoorAbs16
set_option linter.all false
namespace Go.Abs
open Go

section
variable {P : Program} {C : Cfg} {r : Ren} {H : Heap} {w : World}

/-- A block that nobody has yet. -/
theorem Sim.ghost (s : Sim P r H w) (B : Blk) : Sim P r (H.alloc B) w := by
  have hn : ∀ b c e, r b = some (c, e) → b ≠ H.next := fun b c e h => by have := (s.dom b c e h).1; omega
  have old : ∀ {b x c e}, (H.alloc B).get b = some x → r b = some (c, e) → H.get b = some x := by
    intro b x c e h1 h2
    rw [Heap.get_alloc, if_neg (fun e => hn b _ _ h2 e.symm)] at h1; exact h1
  exact ⟨fun b x c e h1 h2 => s.blk b x c e (old h1 h2) h2, fun b x b' x' c e e' h1 hw h2 q1 q2 => s.inj b x b' x' c e e' (old h1 q1) hw (old h2 q2) q1 q2,
    fun b c e h => by have := s.dom b c e h; simp; omega, s.glb⟩

/-- A block that was known before it was made. -/
theorem Sim.fill (s : Sim P r H w) {b : Nat} {B : Blk} (hb : H.get b = some B) (hr : r b = none) (cells : List Value) (el : TypeId) (fz : Nat × Nat)
    (hf : fz.1 ≤ fz.2 ∧ ∀ j, j < cells.length → (fz.1 ≤ j && j < fz.2) = false) (hx : ∃ x y, cells = x ++ y ∧ VRL r B.cells x) :
    Sim P (upd r b (w.heap.size, cells.length)) H (w.alloc (.cells cells.toArray el fz)) := by
  have hle : r.le (upd r b (w.heap.size, cells.length)) := fun k x h => by
    unfold upd
    rw [if_neg (fun e => by subst e; rw [hr] at h; cases h)]; exact h
  obtain ⟨x, y, hxy, hv⟩ := hx
  refine ⟨?_, ?_, ?_, ?_⟩
  · intro k B' c e hk hr'
    unfold upd at hr'
    by_cases hkb : k = b
    · rw [if_pos hkb] at hr'; cases hr'; subst hkb; rw [hb] at hk; cases hk
      exact ⟨cells, el, fz, alloc_new w _, Nat.le_refl _, (.inl hf), x, y, hxy, VRL.mono hle _ _ hv⟩
    · rw [if_neg hkb] at hr'
      exact (s.blk k B' c e hk hr').mono hle (alloc_old w _ c (s.dom k c e hr').2)
  · intro k B1 k' B2 c e e' h1 hw h2 q1 q2
    unfold upd at q1 q2
    by_cases h3 : k = b <;> by_cases h4 : k' = b
    · omega
    · rw [if_pos h3] at q1; rw [if_neg h4] at q2; cases q1; exact absurd (s.dom _ _ _ q2).2 (Nat.lt_irrefl _)
    · rw [if_neg h3] at q1; rw [if_pos h4] at q2; cases q2; exact absurd (s.dom _ _ _ q1).2 (Nat.lt_irrefl _)
    · rw [if_neg h3] at q1; rw [if_neg h4] at q2; exact s.inj k B1 k' B2 c e e' h1 hw h2 q1 q2
  · intro k c e h
    unfold upd at h
    by_cases h3 : k = b
    · rw [if_pos h3] at h; cases h; subst h3; have := Heap.lt_of_get hb; simp; omega
    · rw [if_neg h3] at h; have := s.dom k c e h; simp; omega
  · intro g hg
    obtain ⟨e, he⟩ := s.glb g hg
    exact ⟨e, hle _ _ he⟩
end

/-- What stands open at a mild operation that the order has passed and the model has not. -/
def Pend (C : Cfg) (nt : Nat) (ops : Array Oper) (r : Ren) (lo : Nat) (tm : TM) (H : Heap) (i : Nat) : Prop :=
  mild (opAt ops i).op = true ∧ (∀ d, (opAt ops i).dst = some d → d < nt) ∧
  ((gval ops tm (opAt ops i) = some false ∧ ∀ d, (opAt ops i).dst = some d → tm.get d = some (.tu [])) ∨
   (gval ops tm (opAt ops i) = some true ∧
    ((∃ v, aval C H (aev C tm) (opAt ops i).op = some v ∧ ∀ d, (opAt ops i).dst = some d → tm.get d = some v) ∨
     (∃ v B b d, mk C (aev C tm) (opAt ops i).op = some (v, B) ∧ H.get b = some B ∧ r b = none ∧ lo ≤ b ∧ (opAt ops i).dst = some d ∧ tm.get d = some (v.rebase b)))))

def blkOf : AV → Option Nat
  | .p b _ => some b
  | .sl b _ _ _ => some b
  | _ => none

def TMD (r : Ren) (nt : Nat) (ops : Array Oper) (done : List DI) (listed : Array Bool) (tm : TM) (t : Array Value) : Prop :=
  t.size = nt ∧ ∀ j v, tm.get j = some v → (∀ y ∈ done, (opAt ops y.1).dst = some j → listed.getD y.1 false = true) → ∃ c, t[j]? = some c ∧ VR r v c

def Built (ops : Array Oper) : List DI → Prop
  | [] => True
  | x :: l => VOne ops l x ∧ Built ops l
theorem Built.one {ops : Array Oper} : ∀ {l : List DI}, Built ops l → ∀ x ∈ l, ∃ pre, VOne ops pre x ∧ ∀ y ∈ pre, y ∈ l
  | [], _, _, hx => by cases hx
  | z :: l, h, x, hx => by
    rcases List.mem_cons.1 hx with rfl | hx
    · exact ⟨l, h.1, fun y hy => List.mem_cons_of_mem _ hy⟩
    · obtain ⟨pre, a, b⟩ := h.2.one x hx
      exact ⟨pre, a, fun y hy => List.mem_cons_of_mem _ (b y hy)⟩

structure Inv (P : Program) (C : Cfg) (nt : Nat) (ops : Array Oper) (r0 : Ren) (H0 : Heap) (w0 : World) (done : List DI) (r : Ren) (tm : TM) (H : Heap) (listed : Array Bool) (a : Act) (w : World) : Prop where
  sim : Sim P r H w
  ext : Ext r0 H0 w0 r H w
  defs : a.defers = []
  size : listed.size = ops.size
  tms : TMD r nt ops done listed tm a.tmps
  sub : ∀ i, listed.getD i false = true → ∃ x ∈ done, x.1 = i
  clo : Closed ops (fun i => listed.getD i false = true)
  built : Built ops done
  mok : ∀ x ∈ done, MaskOK ops x
  min : ∀ x ∈ done, MaskIn done x
  nod : ∀ x ∈ done, ∀ y ∈ done, x.1 = y.1 → x = y
  dst : ∀ x ∈ done, ∀ y ∈ done, ∀ d, (opAt ops x.1).dst = some d → (opAt ops y.1).dst = some d → x.1 = y.1
  pen : ∀ x ∈ done, listed.getD x.1 false = false → Pend C nt ops r H0.next tm H x.1
  lou : ∀ x ∈ done, listed.getD x.1 false = false → lm ops x = true
  inj : ∀ x ∈ done, ∀ y ∈ done, listed.getD x.1 false = false → listed.getD y.1 false = false → ∀ d d' b, (opAt ops x.1).dst = some d → (opAt ops y.1).dst = some d' →
    maker (opAt ops x.1).op = true → maker (opAt ops y.1).op = true → (tm.get d).bind blkOf = some b → (tm.get d').bind blkOf = some b → x.1 = y.1

theorem opAt_get {ops : Array Oper} {i : Nat} (h : i < ops.size) : ops[i]? = some (opAt ops i) := by
  simp [opAt, Array.getD, h]

theorem operand_looks {ops : Array Oper} {o : Oper} {t : Nat} (h : Operand.tmp t ∈ o.op.operands) : t ∈ o.looksAt ops := by
  unfold Oper.looksAt
  exact List.mem_append_left _ (List.mem_filterMap.2 ⟨.tmp t, by simpa using h, rfl⟩)
theorem guard_looks {ops : Array Oper} {o : Oper} {g : Nat} {b : Bool} {t : Nat} (h : o.guard = some (g, b)) (ht : (ops[g]?).bind (·.dst) = some t) : t ∈ o.looksAt ops := by
  unfold Oper.looksAt
  refine List.mem_append_right _ ?_
  simp [h, ht]

theorem aev_put {C : Cfg} {tm : TM} {d : Nat} {v : Option AV} {x : Operand} (h : x ≠ .tmp d) : aev C (tm.put d v) x = aev C tm x := by
  cases x with
  | tmp t => simp only [aev]; rw [Tr.get_put, if_neg (fun e => h (by rw [e]))]
  | _ => rfl
theorem gval_put {ops : Array Oper} {tm : TM} {d : Nat} {v : Option AV} {o : Oper} (h : d ∉ o.looksAt ops) : gval ops (tm.put d v) o = gval ops tm o := by
  unfold gval
  cases hg : o.guard with
  | none => rfl
  | some gw =>
    obtain ⟨g, want⟩ := gw
    simp only
    cases ht : (ops[g]?).bind (·.dst) with
    | none => rfl
    | some t =>
      have : d ≠ t := fun e => h (e ▸ guard_looks hg ht)
      simp only [Option.bind_some]
      rw [Tr.get_put, if_neg this]

/-- What stands open stays so where a slot is written that it doesn't look at, and where the heap only gains. -/
theorem Pend.step {C : Cfg} {nt : Nat} {ops : Array Oper} {r r' : Ren} {lo : Nat} {tm : TM} {H H' : Heap} {i : Nat} (h : Pend C nt ops r lo tm H i) {d : Nat} {v : Option AV}
    (hd : d ∉ (opAt ops i).looksAt ops) (hd' : (opAt ops i).dst ≠ some d) (hs : H.Sub H') (hr : ∀ b x, H.get b = some x → r b = none → r' b = none) : Pend C nt ops r' lo (tm.put d v) H' i := by
  obtain ⟨h1, h2, h3⟩ := h
  have hop : ∀ x ∈ (opAt ops i).op.operands, aev C (tm.put d v) x = aev C tm x := fun x hx => aev_put (fun e => by subst e; exact hd (operand_looks hx))
  have hget : ∀ d', (opAt ops i).dst = some d' → (tm.put d v).get d' = tm.get d' := fun d' e => by rw [Tr.get_put, if_neg (fun e' => hd' (by rw [e, e']))]
  refine ⟨h1, h2, ?_⟩
  rw [gval_put hd]
  rcases h3 with ⟨a, b⟩ | ⟨a, b⟩
  · exact .inl ⟨a, fun d' e => (hget d' e).trans (b d' e)⟩
  · refine .inr ⟨a, ?_⟩
    rcases b with ⟨u, c1, c2⟩ | ⟨u, B, b, d', c1, c2, c3, c4, c5, c6⟩
    · exact .inl ⟨u, by rw [aval_congr hop]; exact aval_sub hs c1, fun d' e => (hget d' e).trans (c2 d' e)⟩
    · exact .inr ⟨u, B, b, d', by rw [mk_congr hop]; exact c1, hs b B c2, hr b B c2 c3, c4, c5, (hget d' c5).trans c6⟩

theorem TMR.tmd {r : Ren} {nt : Nat} {ops : Array Oper} {done : List DI} {listed : Array Bool} {tm : TM} {t : Array Value} (h : TMR r nt tm t) : TMD r nt ops done listed tm t :=
  ⟨h.1, fun j v hj _ => h.2 j v hj⟩

theorem getD_set {l : Array Bool} {i j : Nat} : (l.setIfInBounds i true).getD j false = true ↔ (i = j ∧ i < l.size) ∨ l.getD j false = true := by
  simp only [Array.getD_eq_getD_getElem?]
  by_cases h : i = j
  · subst h
    by_cases hl : i < l.size
    · rw [Array.getElem?_setIfInBounds_self_of_lt hl]; simp [hl]
    · have : l.setIfInBounds i true = l := by simp [Array.setIfInBounds, hl]
      rw [this]; simp [hl]
  · rw [Array.getElem?_setIfInBounds_ne h]; simp [h]

open Classical in
/-- The slots that are there. -/
noncomputable def seenEv (C : Cfg) (ops : Array Oper) (done : List DI) (listed : Array Bool) (tm : TM) (x : Operand) : Option AV :=
  match x with
  | .tmp t => if (∀ y ∈ done, (opAt ops y.1).dst = some t → listed.getD y.1 false = true) then tm.get t else none
  | x => aev C tm x

theorem seenEv_ok {P : Program} {C : Cfg} (hC : COK P C) {r : Ren} {H : Heap} {w : World} (s : Sim P r H w) {nt : Nat} {ops : Array Oper} {done : List DI} {listed : Array Bool} {tm : TM} {a : Act} (ht : TMD r nt ops done listed tm a.tmps) :
    ∀ x v, seenEv C ops done listed tm x = some v → VR r v (a.eval x) := by
  intro x v h
  cases x with
  | tmp t =>
    simp only [seenEv] at h
    split at h
    · rename_i hall
      obtain ⟨c, h1, h2⟩ := ht.2 t v h hall
      have : (a.eval (.tmp t)) = c := by simp [Act.eval, h1]
      rw [this]; exact h2
    · cases h
  | const u => exact cAV_ok h
  | global g => exact aev_ok hC s (tm := .l) (n := a.tmps.size) ⟨rfl, fun j v h => by cases h⟩ h
  | func f => exact aev_ok hC s (tm := .l) (n := a.tmps.size) ⟨rfl, fun j v h => by cases h⟩ h

/-- What an operation looks at is there when it is ready: every one that writes it and is done stands ahead of it. -/
def Avail (ops : Array Oper) (done : List DI) (listed : Array Bool) (o : Oper) : Prop :=
  ∀ t ∈ o.looksAt ops, ∀ y ∈ done, (opAt ops y.1).dst = some t → listed.getD y.1 false = true

theorem Built.pair {ops : Array Oper} : ∀ {l : List DI}, Built ops l → ∀ x ∈ l, ∀ y ∈ l, x = y ∨ (∃ pre, VOne ops pre x ∧ y ∈ pre) ∨ ∃ pre, VOne ops pre y ∧ x ∈ pre
  | [], _, x, hx, _, _ => by cases hx
  | z :: l, h, x, hx, y, hy => by
    rcases List.mem_cons.1 hx with rfl | hx' <;> rcases List.mem_cons.1 hy with rfl | hy'
    · exact .inl rfl
    · exact .inr (.inl ⟨l, h.1, hy'⟩)
    · exact .inr (.inr ⟨l, h.1, hx'⟩)
    · exact h.2.pair x hx' y hy'

theorem seenEv_eq {C : Cfg} {ops : Array Oper} {done : List DI} {listed : Array Bool} {tm : TM} {o : Oper} (hav : Avail ops done listed o) : ∀ y ∈ o.op.operands, aev C tm y = seenEv C ops done listed tm y := by
  intro y hy
  cases y with
  | tmp t =>
    simp only [seenEv, aev]
    rw [if_pos]
    intro z hz he
    exact hav t (operand_looks hy) z hz he
  | _ => rfl

theorem wanted_ok {r : Ren} {nt : Nat} {ops : Array Oper} {done : List DI} {listed : Array Bool} {tm : TM} {a : Act} (ht : TMD r nt ops done listed tm a.tmps) {o : Oper} (hav : Avail ops done listed o) {b : Bool} (hg : gval ops tm o = some b) :
    Region.wanted o (yielded ops a.tmps) = b := by
  unfold gval at hg
  unfold Region.wanted
  cases hgu : o.guard with
  | none => rw [hgu] at hg; simpa using hg
  | some gw =>
    obtain ⟨g, want⟩ := gw
    rw [hgu] at hg
    simp only at hg ⊢
    cases hdst : (ops[g]?).bind (·.dst) with
    | none => rw [hdst] at hg; cases hg
    | some t =>
      rw [hdst] at hg
      simp only [Option.bind_some] at hg
      split at hg
      · rename_i q hq
        obtain ⟨c, h1, h2⟩ := ht.2 t _ hq (fun y hy he => hav t (guard_looks hgu hdst) y hy he)
        simp only [VR] at h2
        subst h2
        have : yielded ops a.tmps g = some q := by
          unfold yielded
          rw [hdst]
          simp [h1]
        rw [this]
        cases hg
        cases q <;> cases want <;> rfl
      · rename_i hq
        obtain ⟨c, h1, h2⟩ := ht.2 t _ hq (fun y hy he => hav t (guard_looks hgu hdst) y hy he)
        simp only [VR, VRL] at h2
        obtain ⟨x, rfl, rfl⟩ := h2
        have : yielded ops a.tmps g = none := by
          unfold yielded
          rw [hdst]
          simp [h1]
        rw [this]
        cases hg
        rfl
      · cases hg
end Go.Abs
