/- The abstract machine: the theorem on regions that draw their order. Conditions: none. The abstract machine: the theorem on regions that draw their order, its steps. Conditions: none. The abstract machine: the theorem on regions that draw their order. Conditions: none. The abstract machine: a region that draws its order is answered as in the order that is given. Conditions: none. The abstract machine: code, and the theorem that what it answers is what the model answers. Conditions: none. The abstract machine: code, and the theorem that what it answers is what the model answers. Conditions: none. The abstract machine: a program's types as it knows them. Conditions: none. The abstract machine walked by hand: code on a stack, one rule a form. Conditions: none. -/
import Derived.Test.YtnladombaepkkaaGreatDoorAbsB
set_option linter.all false
namespace Go.Abs
open Go

section
variable {P : Program} {C : Cfg} {r : Ren} {H : Heap} {w : World}

/-- A block that nobody has yet. -/
theorem Sim.ghost (s : Sim P r H w) (B : Blk) : Sim P r (H.alloc B) w := by
  have hn : ∀ b c e, r b = some (c, e) → b ≠ H.next := fun b c e h => by have := (s.dom b c e h).1; omega
  have old : ∀ {b x c e}, (H.alloc B).get b = some x → r b = some (c, e) → H.get b = some x := by
    intro b x c e h1 h2
    rw [Heap.get_alloc, if_neg (fun e => hn b _ _ h2 e.symm)] at h1; exact h1
  exact ⟨fun b x c e h1 h2 => s.blk b x c e (old h1 h2) h2, fun b x b' x' c e e' h1 hw h2 q1 q2 => s.inj b x b' x' c e e' (old h1 q1) hw (old h2 q2) q1 q2,
    fun b c e h => by have := s.dom b c e h; simp; omega, s.glb⟩

/-- A block that was known before it was made. -/
theorem Sim.fill (s : Sim P r H w) {b : Nat} {B : Blk} (hb : H.get b = some B) (hr : r b = none) (cells : List Value) (el : TypeId) (fz : Nat × Nat)
    (hf : fz.1 ≤ fz.2 ∧ ∀ j, j < cells.length → (fz.1 ≤ j && j < fz.2) = false) (hx : ∃ x y, cells = x ++ y ∧ VRL r B.cells x) :
    Sim P (upd r b (w.heap.size, cells.length)) H (w.alloc (.cells cells.toArray el fz)) := by
  have hle : r.le (upd r b (w.heap.size, cells.length)) := fun k x h => by
    unfold upd
    rw [if_neg (fun e => by subst e; rw [hr] at h; cases h)]; exact h
  obtain ⟨x, y, hxy, hv⟩ := hx
  refine ⟨?_, ?_, ?_, ?_⟩
  · intro k B' c e hk hr'
    unfold upd at hr'
    by_cases hkb : k = b
    · rw [if_pos hkb] at hr'; cases hr'; subst hkb; rw [hb] at hk; cases hk
      exact ⟨cells, el, fz, alloc_new w _, Nat.le_refl _, (.inl hf), x, y, hxy, VRL.mono hle _ _ hv⟩
    · rw [if_neg hkb] at hr'
      exact (s.blk k B' c e hk hr').mono hle (alloc_old w _ c (s.dom k c e hr').2)
  · intro k B1 k' B2 c e e' h1 hw h2 q1 q2
    unfold upd at q1 q2
    by_cases h3 : k = b <;> by_cases h4 : k' = b
    · omega
    · rw [if_pos h3] at q1; rw [if_neg h4] at q2; cases q1; exact absurd (s.dom _ _ _ q2).2 (Nat.lt_irrefl _)
    · rw [if_neg h3] at q1; rw [if_pos h4] at q2; cases q2; exact absurd (s.dom _ _ _ q1).2 (Nat.lt_irrefl _)
    · rw [if_neg h3] at q1; rw [if_neg h4] at q2; exact s.inj k B1 k' B2 c e e' h1 hw h2 q1 q2
  · intro k c e h
    unfold upd at h
    by_cases h3 : k = b
    · rw [if_pos h3] at h; cases h; subst h3; have := Heap.lt_of_get hb; simp; omega
    · rw [if_neg h3] at h; have := s.dom k c e h; simp; omega
  · intro g hg
    obtain ⟨e, he⟩ := s.glb g hg
    exact ⟨e, hle _ _ he⟩
end

/-- What stands open at a mild operation that the order has passed and the model has not. -/
def Pend (C : Cfg) (nt : Nat) (ops : Array Oper) (r : Ren) (lo : Nat) (tm : TM) (H : Heap) (i : Nat) : Prop :=
  mild (opAt ops i).op = true ∧ (∀ d, (opAt ops i).dst = some d → d < nt) ∧
  ((gval ops tm (opAt ops i) = some false ∧ ∀ d, (opAt ops i).dst = some d → tm.get d = some (.tu [])) ∨
   (gval ops tm (opAt ops i) = some true ∧
    ((∃ v, aval C H (aev C tm) (opAt ops i).op = some v ∧ ∀ d, (opAt ops i).dst = some d → tm.get d = some v) ∨
     (∃ v B b d, mk C (aev C tm) (opAt ops i).op = some (v, B) ∧ H.get b = some B ∧ r b = none ∧ lo ≤ b ∧ (opAt ops i).dst = some d ∧ tm.get d = some (v.rebase b)))))

def blkOf : AV → Option Nat
  | .p b _ => some b
  | .sl b _ _ _ => some b
  | _ => none

def TMD (r : Ren) (nt : Nat) (ops : Array Oper) (done : List DI) (listed : Array Bool) (tm : TM) (t : Array Value) : Prop :=
  t.size = nt ∧ ∀ j v, tm.get j = some v → (∀ y ∈ done, (opAt ops y.1).dst = some j → listed.getD y.1 false = true) → ∃ c, t[j]? = some c ∧ VR r v c

def Built (ops : Array Oper) : List DI → Prop
  | [] => True
  | x :: l => VOne ops l x ∧ Built ops l
theorem Built.one {ops : Array Oper} : ∀ {l : List DI}, Built ops l → ∀ x ∈ l, ∃ pre, VOne ops pre x ∧ ∀ y ∈ pre, y ∈ l
  | [], _, _, hx => by cases hx
  | z :: l, h, x, hx => by
    rcases List.mem_cons.1 hx with rfl | hx
    · exact ⟨l, h.1, fun y hy => List.mem_cons_of_mem _ hy⟩
    · obtain ⟨pre, a, b⟩ := h.2.one x hx
      exact ⟨pre, a, fun y hy => List.mem_cons_of_mem _ (b y hy)⟩

structure Inv (P : Program) (C : Cfg) (nt : Nat) (ops : Array Oper) (r0 : Ren) (H0 : Heap) (w0 : World) (done : List DI) (r : Ren) (tm : TM) (H : Heap) (listed : Array Bool) (a : Act) (w : World) : Prop where
  sim : Sim P r H w
  ext : Ext r0 H0 w0 r H w
  defs : a.defers = []
  size : listed.size = ops.size
  tms : TMD r nt ops done listed tm a.tmps
  sub : ∀ i, listed.getD i false = true → ∃ x ∈ done, x.1 = i
  clo : Closed ops (fun i => listed.getD i false = true)
  built : Built ops done
  mok : ∀ x ∈ done, MaskOK ops x
  min : ∀ x ∈ done, MaskIn done x
  nod : ∀ x ∈ done, ∀ y ∈ done, x.1 = y.1 → x = y
  dst : ∀ x ∈ done, ∀ y ∈ done, ∀ d, (opAt ops x.1).dst = some d → (opAt ops y.1).dst = some d → x.1 = y.1
  pen : ∀ x ∈ done, listed.getD x.1 false = false → Pend C nt ops r H0.next tm H x.1
  lou : ∀ x ∈ done, listed.getD x.1 false = false → lm ops x = true
  inj : ∀ x ∈ done, ∀ y ∈ done, listed.getD x.1 false = false → listed.getD y.1 false = false → ∀ d d' b, (opAt ops x.1).dst = some d → (opAt ops y.1).dst = some d' →
    maker (opAt ops x.1).op = true → maker (opAt ops y.1).op = true → (tm.get d).bind blkOf = some b → (tm.get d').bind blkOf = some b → x.1 = y.1

theorem opAt_get {ops : Array Oper} {i : Nat} (h : i < ops.size) : ops[i]? = some (opAt ops i) := by
  simp [opAt, Array.getD, h]

theorem operand_looks {ops : Array Oper} {o : Oper} {t : Nat} (h : Operand.tmp t ∈ o.op.operands) : t ∈ o.looksAt ops := by
  unfold Oper.looksAt
  exact List.mem_append_left _ (List.mem_filterMap.2 ⟨.tmp t, by simpa using h, rfl⟩)
theorem guard_looks {ops : Array Oper} {o : Oper} {g : Nat} {b : Bool} {t : Nat} (h : o.guard = some (g, b)) (ht : (ops[g]?).bind (·.dst) = some t) : t ∈ o.looksAt ops := by
  unfold Oper.looksAt
  refine List.mem_append_right _ ?_
  simp [h, ht]

theorem aev_put {C : Cfg} {tm : TM} {d : Nat} {v : Option AV} {x : Operand} (h : x ≠ .tmp d) : aev C (tm.put d v) x = aev C tm x := by
  cases x with
  | tmp t => simp only [aev]; rw [Tr.get_put, if_neg (fun e => h (by rw [e]))]
  | _ => rfl
theorem gval_put {ops : Array Oper} {tm : TM} {d : Nat} {v : Option AV} {o : Oper} (h : d ∉ o.looksAt ops) : gval ops (tm.put d v) o = gval ops tm o := by
  unfold gval
  cases hg : o.guard with
  | none => rfl
  | some gw =>
    obtain ⟨g, want⟩ := gw
    simp only
    cases ht : (ops[g]?).bind (·.dst) with
    | none => rfl
    | some t =>
      have : d ≠ t := fun e => h (e ▸ guard_looks hg ht)
      simp only [Option.bind_some]
      rw [Tr.get_put, if_neg this]

/-- What stands open stays so where a slot is written that it doesn't look at, and where the heap only gains. -/
theorem Pend.step {C : Cfg} {nt : Nat} {ops : Array Oper} {r r' : Ren} {lo : Nat} {tm : TM} {H H' : Heap} {i : Nat} (h : Pend C nt ops r lo tm H i) {d : Nat} {v : Option AV}
    (hd : d ∉ (opAt ops i).looksAt ops) (hd' : (opAt ops i).dst ≠ some d) (hs : H.Sub H') (hr : ∀ b x, H.get b = some x → r b = none → r' b = none) : Pend C nt ops r' lo (tm.put d v) H' i := by
  obtain ⟨h1, h2, h3⟩ := h
  have hop : ∀ x ∈ (opAt ops i).op.operands, aev C (tm.put d v) x = aev C tm x := fun x hx => aev_put (fun e => by subst e; exact hd (operand_looks hx))
  have hget : ∀ d', (opAt ops i).dst = some d' → (tm.put d v).get d' = tm.get d' := fun d' e => by rw [Tr.get_put, if_neg (fun e' => hd' (by rw [e, e']))]
  refine ⟨h1, h2, ?_⟩
  rw [gval_put hd]
  rcases h3 with ⟨a, b⟩ | ⟨a, b⟩
  · exact .inl ⟨a, fun d' e => (hget d' e).trans (b d' e)⟩
  · refine .inr ⟨a, ?_⟩
    rcases b with ⟨u, c1, c2⟩ | ⟨u, B, b, d', c1, c2, c3, c4, c5, c6⟩
    · exact .inl ⟨u, by rw [aval_congr hop]; exact aval_sub hs c1, fun d' e => (hget d' e).trans (c2 d' e)⟩
    · exact .inr ⟨u, B, b, d', by rw [mk_congr hop]; exact c1, hs b B c2, hr b B c2 c3, c4, c5, (hget d' c5).trans c6⟩

theorem TMR.tmd {r : Ren} {nt : Nat} {ops : Array Oper} {done : List DI} {listed : Array Bool} {tm : TM} {t : Array Value} (h : TMR r nt tm t) : TMD r nt ops done listed tm t :=
  ⟨h.1, fun j v hj _ => h.2 j v hj⟩

theorem getD_set {l : Array Bool} {i j : Nat} : (l.setIfInBounds i true).getD j false = true ↔ (i = j ∧ i < l.size) ∨ l.getD j false = true := by
  simp only [Array.getD_eq_getD_getElem?]
  by_cases h : i = j
  · subst h
    by_cases hl : i < l.size
    · rw [Array.getElem?_setIfInBounds_self_of_lt hl]; simp [hl]
    · have : l.setIfInBounds i true = l := by simp [Array.setIfInBounds, hl]
      rw [this]; simp [hl]
  · rw [Array.getElem?_setIfInBounds_ne h]; simp [h]

open Classical in
/-- The slots that are there. -/
noncomputable def seenEv (C : Cfg) (ops : Array Oper) (done : List DI) (listed : Array Bool) (tm : TM) (x : Operand) : Option AV :=
  match x with
  | .tmp t => if (∀ y ∈ done, (opAt ops y.1).dst = some t → listed.getD y.1 false = true) then tm.get t else none
  | x => aev C tm x

theorem seenEv_ok {P : Program} {C : Cfg} (hC : COK P C) {r : Ren} {H : Heap} {w : World} (s : Sim P r H w) {nt : Nat} {ops : Array Oper} {done : List DI} {listed : Array Bool} {tm : TM} {a : Act} (ht : TMD r nt ops done listed tm a.tmps) :
    ∀ x v, seenEv C ops done listed tm x = some v → VR r v (a.eval x) := by
  intro x v h
  cases x with
  | tmp t =>
    simp only [seenEv] at h
    split at h
    · rename_i hall
      obtain ⟨c, h1, h2⟩ := ht.2 t v h hall
      have : (a.eval (.tmp t)) = c := by simp [Act.eval, h1]
      rw [this]; exact h2
    · cases h
  | const u => exact cAV_ok h
  | global g => exact aev_ok hC s (tm := .l) (n := a.tmps.size) ⟨rfl, fun j v h => by cases h⟩ h
  | func f => exact aev_ok hC s (tm := .l) (n := a.tmps.size) ⟨rfl, fun j v h => by cases h⟩ h

/-- What an operation looks at is there when it is ready: every one that writes it and is done stands ahead of it. -/
def Avail (ops : Array Oper) (done : List DI) (listed : Array Bool) (o : Oper) : Prop :=
  ∀ t ∈ o.looksAt ops, ∀ y ∈ done, (opAt ops y.1).dst = some t → listed.getD y.1 false = true

theorem Built.pair {ops : Array Oper} : ∀ {l : List DI}, Built ops l → ∀ x ∈ l, ∀ y ∈ l, x = y ∨ (∃ pre, VOne ops pre x ∧ y ∈ pre) ∨ ∃ pre, VOne ops pre y ∧ x ∈ pre
  | [], _, x, hx, _, _ => by cases hx
  | z :: l, h, x, hx, y, hy => by
    rcases List.mem_cons.1 hx with rfl | hx' <;> rcases List.mem_cons.1 hy with rfl | hy'
    · exact .inl rfl
    · exact .inr (.inl ⟨l, h.1, hy'⟩)
    · exact .inr (.inr ⟨l, h.1, hx'⟩)
    · exact h.2.pair x hx' y hy'

theorem seenEv_eq {C : Cfg} {ops : Array Oper} {done : List DI} {listed : Array Bool} {tm : TM} {o : Oper} (hav : Avail ops done listed o) : ∀ y ∈ o.op.operands, aev C tm y = seenEv C ops done listed tm y := by
  intro y hy
  cases y with
  | tmp t =>
    simp only [seenEv, aev]
    rw [if_pos]
    intro z hz he
    exact hav t (operand_looks hy) z hz he
  | _ => rfl

theorem wanted_ok {r : Ren} {nt : Nat} {ops : Array Oper} {done : List DI} {listed : Array Bool} {tm : TM} {a : Act} (ht : TMD r nt ops done listed tm a.tmps) {o : Oper} (hav : Avail ops done listed o) {b : Bool} (hg : gval ops tm o = some b) :
    Region.wanted o (yielded ops a.tmps) = b := by
  unfold gval at hg
  unfold Region.wanted
  cases hgu : o.guard with
  | none => rw [hgu] at hg; simpa using hg
  | some gw =>
    obtain ⟨g, want⟩ := gw
    rw [hgu] at hg
    simp only at hg ⊢
    cases hdst : (ops[g]?).bind (·.dst) with
    | none => rw [hdst] at hg; cases hg
    | some t =>
      rw [hdst] at hg
      simp only [Option.bind_some] at hg
      split at hg
      · rename_i q hq
        obtain ⟨c, h1, h2⟩ := ht.2 t _ hq (fun y hy he => hav t (guard_looks hgu hdst) y hy he)
        simp only [VR] at h2
        subst h2
        have : yielded ops a.tmps g = some q := by
          unfold yielded
          rw [hdst]
          simp [h1]
        rw [this]
        cases hg
        cases q <;> cases want <;> rfl
      · rename_i hq
        obtain ⟨c, h1, h2⟩ := ht.2 t _ hq (fun y hy he => hav t (guard_looks hgu hdst) y hy he)
        simp only [VR, VRL] at h2
        obtain ⟨x, rfl, rfl⟩ := h2
        have : yielded ops a.tmps g = none := by
          unfold yielded
          rw [hdst]
          simp [h1]
        rw [this]
        cases hg
        rfl
      · cases hg
end Go.Abs
namespace Go.Abs
open Go

def puto (tm : TM) (dst : Option Tmp) (v : Option AV) : TM := match dst with | none => tm | some d => tm.put d v
theorem aput_elim {nt : Nat} {dst : Option Tmp} {v : Option AV} {tm : TM} {K : TM → Prop} (h : aput nt dst v tm K) : (∀ d, dst = some d → d < nt) ∧ K (puto tm dst v) := by
  cases dst with
  | none => exact ⟨fun d e => (by cases e), h⟩
  | some d =>
    simp only [aput] at h
    split at h
    · rename_i hd; exact ⟨fun d' e => by cases e; exact hd, h⟩
    · exact h.elim
theorem puto_get {tm : TM} {dst : Option Tmp} {v : Option AV} {j : Nat} : (puto tm dst v).get j = if dst = some j then v else tm.get j := by
  cases dst with
  | none => simp [puto]
  | some d =>
    simp only [puto, Tr.get_put, Option.some.injEq]

theorem Pend.stepo {C : Cfg} {nt : Nat} {ops : Array Oper} {r r' : Ren} {lo : Nat} {tm : TM} {H H' : Heap} {i : Nat} (h : Pend C nt ops r lo tm H i) {dst : Option Tmp} {v : Option AV}
    (hd : ∀ d, dst = some d → d ∉ (opAt ops i).looksAt ops) (hd' : ∀ d, dst = some d → (opAt ops i).dst ≠ some d) (hs : H.Sub H') (hr : ∀ b x, H.get b = some x → r b = none → r' b = none) :
    Pend C nt ops r' lo (puto tm dst v) H' i := by
  cases dst with
  | some d => exact h.step (hd d rfl) (hd' d rfl) hs hr
  | none =>
    obtain ⟨h1, h2, h3⟩ := h
    refine ⟨h1, h2, ?_⟩
    rcases h3 with h | ⟨a, b⟩
    · exact .inl h
    · refine .inr ⟨a, ?_⟩
      rcases b with ⟨u, c1, c2⟩ | ⟨u, B, b, d', c1, c2, c3, c4, c5, c6⟩
      · exact .inl ⟨u, aval_sub hs c1, c2⟩
      · exact .inr ⟨u, B, b, d', c1, hs b B c2, hr b B c2 c3, c4, c5, c6⟩

theorem blkOf_rebase {v : AV} {b k : Nat} (h : blkOf (v.rebase b) = some k) : k = b := by
  cases v <;> simp_all [AV.rebase, blkOf]
theorem blkOf_maker {C : Cfg} {H : Heap} {ρ : Operand → Option AV} {op : Op} {v : AV} (hm : maker op = true) (h : aval C H ρ op = some v) : blkOf v = none := by
  cases op <;> first | (cases hm; done) | skip
  case convert s d x =>
    simp only [aval] at h
    split at h
    · unfold aconv at h
      split at h
      · split at h
        · cases h; rfl
        · cases h; rfl
        · split at h
          · cases h; rfl
          · cases h
        · split at h
          · split at h
            · rename_i B _ _ _
              cases hb : abytes ((B.cells.drop _).take _) with
              | none => rw [hb] at h; cases h
              | some m => rw [hb] at h; cases h; rfl
            · cases h
          · cases h
        · cases h
      · cases h
    · cases h
  all_goals (simp [aval] at h)

section
variable {P : Program} {C : Cfg} {nt : Nat} {ops : Array Oper} {r0 : Ren} {H0 : Heap} {w0 : World} {done : List DI} {r : Ren} {tm : TM} {H : Heap} {listed : Array Bool} {a : Act} {w : World}

/-- A pending maker's block is one of the heap's. -/
theorem Inv.blk_lt (I : Inv P C nt ops r0 H0 w0 done r tm H listed a w) {y : DI} (hy : y ∈ done) (hl : listed.getD y.1 false = false) {d b : Nat} (hd : (opAt ops y.1).dst = some d) (hm : maker (opAt ops y.1).op = true)
    (hb : (tm.get d).bind blkOf = some b) : ∃ B, H.get b = some B ∧ r b = none := by
  obtain ⟨_, _, h3⟩ := I.pen y hy hl
  rcases h3 with ⟨_, h⟩ | ⟨_, ⟨v, h1, h2⟩ | ⟨v, B, k, d', c1, c2, c3, c4, c5, c6⟩⟩
  · rw [h d hd] at hb; simp [blkOf] at hb
  · rw [h2 d hd] at hb; simp only [Option.bind_some] at hb; rw [blkOf_maker hm h1] at hb; cases hb
  · rw [hd] at c5; cases c5
    rw [c6] at hb; simp only [Option.bind_some] at hb
    have := blkOf_rebase hb
    subst this
    exact ⟨B, c2, c3⟩

theorem Inv.push (I : Inv P C nt ops r0 H0 w0 done r tm H listed a w) {x : DI} (hx : VOne ops done x) (hlm : lm ops x = true) {H' : Heap} (hs : H.Sub H') (sim' : Sim P r H' w) (ext' : Ext r0 H0 w0 r H' w) {v : Option AV}
    (hp : Pend C nt ops r H0.next (puto tm (opAt ops x.1).dst v) H' x.1)
    (hinj : maker (opAt ops x.1).op = true → ∀ y ∈ done, listed.getD y.1 false = false → ∀ d' b, (opAt ops y.1).dst = some d' → maker (opAt ops y.1).op = true → (tm.get d').bind blkOf = some b → v.bind blkOf ≠ some b) :
    Inv P C nt ops r0 H0 w0 (x :: done) r (puto tm (opAt ops x.1).dst v) H' listed a w := by
  have hnl : listed.getD x.1 false = false := by
    cases h : listed.getD x.1 false with
    | false => rfl
    | true => obtain ⟨y, hy, e⟩ := I.sub _ h; exact absurd e (hx.new y hy)
  have hy1 : ∀ y ∈ done, ∀ d, (opAt ops x.1).dst = some d → d ∉ (opAt ops y.1).looksAt ops := by
    intro y hy d hd hm'
    have := (hx.anti d hd y hy hm').1
    rw [hlm] at this; cases this
  have hy2 : ∀ y ∈ done, ∀ d, (opAt ops x.1).dst = some d → (opAt ops y.1).dst ≠ some d := fun y hy d hd => hx.dst d hd y hy
  have hget : ∀ y ∈ done, ∀ d, (opAt ops y.1).dst = some d → (puto tm (opAt ops x.1).dst v).get d = tm.get d := by
    intro y hy d hd
    rw [puto_get, if_neg (fun e => hy2 y hy d e hd)]
  refine ⟨sim', ext', I.defs, I.size, ⟨I.tms.1, ?_⟩, ?_, I.clo, ⟨hx, I.built⟩, ?_, ?_, ?_, ?_, ?_, ?_, ?_⟩
  · intro j u hj hall
    rw [puto_get] at hj
    by_cases he : (opAt ops x.1).dst = some j
    · have := hall x (List.mem_cons_self ..) he; rw [hnl] at this; cases this
    · rw [if_neg he] at hj; exact I.tms.2 j u hj fun y hy => hall y (List.mem_cons_of_mem _ hy)
  · intro i hi
    obtain ⟨y, hy, e⟩ := I.sub i hi
    exact ⟨y, List.mem_cons_of_mem _ hy, e⟩
  · intro y hy
    rcases List.mem_cons.1 hy with rfl | hy
    · exact maskOK_of hx I.mok
    · exact I.mok y hy
  · intro y hy j hj
    rcases List.mem_cons.1 hy with rfl | hy
    · obtain ⟨z, hz, e⟩ := maskIn_of hx I.min j hj; exact ⟨z, List.mem_cons_of_mem _ hz, e⟩
    · obtain ⟨z, hz, e⟩ := I.min y hy j hj; exact ⟨z, List.mem_cons_of_mem _ hz, e⟩
  · intro y hy z hz e
    rcases List.mem_cons.1 hy with rfl | hy' <;> rcases List.mem_cons.1 hz with rfl | hz'
    · rfl
    · exact absurd e.symm (hx.new z hz')
    · exact absurd e (hx.new y hy')
    · exact I.nod y hy' z hz' e
  · intro y hy z hz d h1 h2
    rcases List.mem_cons.1 hy with rfl | hy' <;> rcases List.mem_cons.1 hz with rfl | hz'
    · rfl
    · exact absurd h2 (hx.dst d h1 z hz')
    · exact absurd h1 (hx.dst d h2 y hy')
    · exact I.dst y hy' z hz' d h1 h2
  · intro y hy hl
    rcases List.mem_cons.1 hy with rfl | hy
    · exact hp
    · exact (I.pen y hy hl).stepo (hy1 y hy) (hy2 y hy) hs (fun _ _ _ h => h)
  · intro y hy hl
    rcases List.mem_cons.1 hy with rfl | hy
    · exact hlm
    · exact I.lou y hy hl
  · intro y hy z hz l1 l2 d d' b h1 h2 m1 m2 q1 q2
    rcases List.mem_cons.1 hy with rfl | hy' <;> rcases List.mem_cons.1 hz with rfl | hz'
    · rfl
    · rw [puto_get, if_pos h1] at q1; rw [hget z hz' d' h2] at q2
      exact absurd q1 (hinj m1 z hz' l2 d' b h2 m2 q2)
    · rw [puto_get, if_pos h2] at q2; rw [hget y hy' d h1] at q1
      exact absurd q2 (hinj m2 y hy' l1 d b h1 m1 q1)
    · rw [hget y hy' d h1] at q1; rw [hget z hz' d' h2] at q2
      exact I.inj y hy' z hz' l1 l2 d d' b h1 h2 m1 m2 q1 q2

/-- The order goes on to the next loud operation. -/
theorem Inv.advance {K : TM → Heap → Prop} : ∀ (rem : List DI) {done : List DI} {tm : TM} {H : Heap}, Inv P C nt ops r0 H0 w0 done r tm H listed a w → vgo ops done rem = true → adraw P C nt ops K rem tm H →
    ∃ done' rem' tm' H', Inv P C nt ops r0 H0 w0 done' r tm' H' listed a w ∧ vgo ops done' rem' = true ∧ adraw P C nt ops K rem' tm' H' ∧ (∀ x rest, rem' = x :: rest → lm ops x = false) ∧
      (∀ i, ((∃ x ∈ done, x.1 = i) ∨ ∃ x ∈ rem, x.1 = i) → (∃ x ∈ done', x.1 = i) ∨ ∃ x ∈ rem', x.1 = i)
  | [], done, tm, H, I, hv, hd => ⟨done, [], tm, H, I, hv, hd, fun _ _ e => (by cases e), fun _ h => h⟩
  | x :: rest, done, tm, H, I, hv, hd => by
    by_cases hlm : lm ops x = false
    · exact ⟨done, x :: rest, tm, H, I, hv, hd, fun _ _ e => (by cases e; exact hlm), fun _ h => h⟩
    · have hlm : lm ops x = true := by simpa using hlm
      have hm : mild (opAt ops x.1).op = true := by unfold lm at hlm; simp only [Bool.and_eq_true] at hlm; exact hlm.1
      have hv' := hv
      simp only [vgo, Bool.and_eq_true] at hv'
      have hx := vone_ok hv'.1
      have wrapup : ∀ {tm' : TM} {H' : Heap}, Inv P C nt ops r0 H0 w0 (x :: done) r tm' H' listed a w → adraw P C nt ops K rest tm' H' →
          ∃ done' rem' tm' H', Inv P C nt ops r0 H0 w0 done' r tm' H' listed a w ∧ vgo ops done' rem' = true ∧ adraw P C nt ops K rem' tm' H' ∧ (∀ x rest, rem' = x :: rest → lm ops x = false) ∧
          (∀ i, ((∃ z ∈ done, z.1 = i) ∨ ∃ z ∈ x :: rest, z.1 = i) → (∃ z ∈ done', z.1 = i) ∨ ∃ z ∈ rem', z.1 = i) := by
        intro tm' H' I' hd'
        obtain ⟨d', r', t', h', i1, i2, i3, i4, i5⟩ := Inv.advance rest I' hv'.2 hd'
        exact ⟨d', r', t', h', i1, i2, i3, i4, fun i h => i5 i (by
          rcases h with ⟨z, hz, e⟩ | ⟨z, hz, e⟩
          · exact .inl ⟨z, List.mem_cons_of_mem _ hz, e⟩
          · rcases List.mem_cons.1 hz with rfl | hz
            · exact .inl ⟨z, List.mem_cons_self .., e⟩
            · exact .inr ⟨z, hz, e⟩)⟩
      have hmask := hx.own
      simp only [adraw, opAt_get hx.lt] at hd
      split at hd
      · rename_i hg
        rcases mild_cases hm hd with ⟨v, h1, h2⟩ | ⟨u, B, h1, h2⟩
        · obtain ⟨q1, _, q2⟩ := aput_elim h2
          have hop : ∀ z ∈ (opAt ops x.1).op.operands, aev C (puto tm (opAt ops x.1).dst (some v)) z = aev C tm z := by
            intro z hz
            cases hdst : (opAt ops x.1).dst with
            | none => rfl
            | some d => exact aev_put (fun e => by subst e; exact hmask d hdst (operand_looks hz))
          have hgv : gval ops (puto tm (opAt ops x.1).dst (some v)) (opAt ops x.1) = some true := by
            cases hdst : (opAt ops x.1).dst with
            | none => exact hg
            | some d => rw [← hg]; exact gval_put (hmask d hdst)
          refine wrapup (I.push hx hlm (v := some v) (fun _ _ h => h) I.sim I.ext ⟨hm, q1, .inr ⟨hgv, .inl ⟨v, by rw [aval_congr hop]; exact h1, fun d e => by rw [puto_get, if_pos e]⟩⟩⟩ ?_) q2
          intro hmk y hy hl d' b e1 e2 e3
          simp [blkOf_maker hmk h1]
        · obtain ⟨q1, _, q2⟩ := aput_elim h2
          have hmk : maker (opAt ops x.1).op = true := (Go.Abs.mk_blk h1).1
          obtain ⟨d, hdst⟩ := Option.isSome_iff_exists.1 (hx.mdst hmk)
          have hop : ∀ z ∈ (opAt ops x.1).op.operands, aev C (puto tm (opAt ops x.1).dst (some (u.rebase H.next))) z = aev C tm z := by
            intro z hz
            rw [hdst]
            exact aev_put (fun e => by subst e; exact hmask d hdst (operand_looks hz))
          have hgv : gval ops (puto tm (opAt ops x.1).dst (some (u.rebase H.next))) (opAt ops x.1) = some true := by
            rw [hdst, ← hg]; exact gval_put (hmask d hdst)
          have hrn : r H.next = none := by
            cases h : r H.next with
            | none => rfl
            | some z => exact absurd (I.sim.dom _ z.1 z.2 h).1 (Nat.lt_irrefl _)
          have ext' : Ext r0 H0 w0 r (H.alloc B) w := ⟨I.ext.ren, by have := I.ext.next; simp; omega, I.ext.size, I.ext.keep, fun c hc ⟨b, B', e, g1, g2, g3⟩ => I.ext.wrs c hc ⟨b, B', e, by
            rw [Heap.get_alloc] at g1
            split at g1
            · rename_i e2; rw [← e2, hrn] at g3; cases g3
            · exact g1, g2, g3⟩, I.ext.tape, I.ext.os, I.ext.output⟩
          refine wrapup (I.push hx hlm (v := some (u.rebase H.next)) (Heap.sub_alloc H B) (I.sim.ghost B) ext' ⟨hm, q1, .inr ⟨hgv, .inr ⟨u, B, H.next, d, by rw [mk_congr hop]; exact h1, by rw [Heap.get_alloc, if_pos rfl], hrn, I.ext.next, hdst, by rw [puto_get, if_pos hdst]⟩⟩⟩ ?_) q2
          intro _ y hy hl d' b e1 e2 e3 e4
          obtain ⟨B', hB', _⟩ := I.blk_lt hy hl e1 e2 e3
          have := Heap.lt_of_get hB'
          have := blkOf_rebase e4
          omega
      · rename_i hg
        obtain ⟨q1, _, q2⟩ := aput_elim hd
        have hgv : gval ops (puto tm (opAt ops x.1).dst (some (.tu []))) (opAt ops x.1) = some false := by
          cases hdst : (opAt ops x.1).dst with
          | none => exact hg
          | some d => rw [← hg]; exact gval_put (hmask d hdst)
        refine wrapup (I.push hx hlm (v := some (.tu [])) (fun _ _ h => h) I.sim I.ext ⟨hm, q1, .inl ⟨hgv, fun d e => by rw [puto_get, if_pos e]⟩⟩ ?_) q2
        intro _ y hy hl d' b e1 e2 e3
        simp [blkOf]
      · exact hd.elim
end
end Go.Abs
namespace Go.Abs
open Go
section
variable {P : Program} {C : Cfg} {nt : Nat} {ops : Array Oper} {r0 : Ren} {H0 : Heap} {w0 : World} {done : List DI} {r : Ren} {tm : TM} {H : Heap} {listed : Array Bool} {a : Act} {w : World}

theorem put_tmps (a : Act) (dst : Option Tmp) (c : Value) : (a.put dst c).tmps.size = a.tmps.size ∧ (a.put dst c).defers = a.defers ∧
    (∀ j, dst ≠ some j → (a.put dst c).tmps[j]? = a.tmps[j]?) ∧ ∀ d, dst = some d → d < a.tmps.size → (a.put dst c).tmps[d]? = some c := by
  cases dst with
  | none => exact ⟨rfl, rfl, fun _ _ => rfl, fun d e => by cases e⟩
  | some d =>
    refine ⟨by simp [Act.put], rfl, fun j hj => ?_, fun d' e hd => ?_⟩
    · simp only [Act.put]; rw [Array.getElem?_setIfInBounds_ne (fun e => hj (by rw [e]))]
    · cases e; simp only [Act.put]; rw [Array.getElem?_setIfInBounds_self_of_lt hd]

theorem Inv.list (I : Inv P C nt ops r0 H0 w0 done r tm H listed a w) {x : DI} (hx : x ∈ done) (hl : listed.getD x.1 false = false) (hd : ∀ d ∈ depsOf (opAt ops x.1), listed.getD d false = true)
    {r' : Ren} {w' : World} {c : Value} (s' : Sim P r' H w') (e' : Ext r0 H0 w0 r' H w') (hr : r.le r') (hc : ∀ d v, (opAt ops x.1).dst = some d → tm.get d = some v → VR r' v c)
    (hp : ∀ y ∈ done, y.1 ≠ x.1 → listed.getD y.1 false = false → Pend C nt ops r' H0.next tm H y.1) :
    Inv P C nt ops r0 H0 w0 done r' tm H (listed.setIfInBounds x.1 true) (a.put (opAt ops x.1).dst c) w' := by
  obtain ⟨p1, p2, p3, p4⟩ := put_tmps a (opAt ops x.1).dst c
  obtain ⟨pre, hv, _⟩ := I.built.one x hx
  have hlt : x.1 < listed.size := by rw [I.size]; exact hv.lt
  have hun : ∀ y : DI, (listed.setIfInBounds x.1 true).getD y.1 false = false → y.1 ≠ x.1 ∧ listed.getD y.1 false = false := by
    intro y hy
    refine ⟨fun e => ?_, ?_⟩
    · rw [getD_set.2 (.inl ⟨e.symm, hlt⟩)] at hy; cases hy
    · cases h : listed.getD y.1 false with
      | false => rfl
      | true => rw [getD_set.2 (.inr h)] at hy; cases hy
  refine ⟨s', e', p2.trans I.defs, by simp [I.size], ⟨p1.trans I.tms.1, ?_⟩, ?_, ?_, I.built, I.mok, I.min, I.nod, I.dst, ?_, ?_, ?_⟩
  · intro j v hj hall
    by_cases he : (opAt ops x.1).dst = some j
    · have hjn : j < nt := (I.pen x hx hl).2.1 j he
      exact ⟨c, p4 j he (by rw [I.tms.1]; exact hjn), hc j v he hj⟩
    · obtain ⟨u, h1, h2⟩ := I.tms.2 j v hj (fun y hy hdst => by
        rcases getD_set.1 (hall y hy hdst) with ⟨e, _⟩ | h
        · rw [← e] at hdst; exact absurd hdst he
        · exact h)
      exact ⟨u, (p3 j he).trans h1, VR.mono hr _ _ h2⟩
  · intro i hi
    rcases getD_set.1 hi with ⟨rfl, _⟩ | h
    · exact ⟨x, hx, rfl⟩
    · exact I.sub i h
  · intro i hi d hdd
    rcases getD_set.1 hi with ⟨rfl, _⟩ | h
    · exact getD_set.2 (.inr (hd d hdd))
    · exact getD_set.2 (.inr (I.clo i h d hdd))
  · intro y hy hyl
    obtain ⟨h1, h2⟩ := hun y hyl
    exact hp y hy h1 h2
  · intro y hy hyl; exact I.lou y hy (hun y hyl).2
  · intro y hy z hz l1 l2
    exact I.inj y hy z hz (hun y l1).2 (hun z l2).2

theorem Pend.ren {C : Cfg} {nt : Nat} {ops : Array Oper} {r r' : Ren} {lo : Nat} {tm : TM} {H : Heap} {i : Nat} (h : Pend C nt ops r lo tm H i)
    (hr : ∀ d b, (opAt ops i).dst = some d → maker (opAt ops i).op = true → (tm.get d).bind blkOf = some b → r b = none → r' b = none) : Pend C nt ops r' lo tm H i := by
  obtain ⟨h1, h2, h3⟩ := h
  refine ⟨h1, h2, ?_⟩
  rcases h3 with h | ⟨a, h | ⟨u, B, b, d', c1, c2, c3, c4, c5, c6⟩⟩
  · exact .inl h
  · exact .inr ⟨a, .inl h⟩
  · obtain ⟨hmk, hsh⟩ := Go.Abs.mk_blk c1
    refine .inr ⟨a, .inr ⟨u, B, b, d', c1, c2, hr d' b c5 hmk ?_ c3, c4, c5, c6⟩⟩
    rw [c6]
    rcases hsh with ⟨_, _, rfl⟩ | ⟨_, _, _, _, rfl⟩ <;> rfl

theorem Inv.exec (hC : COK P C) (I : Inv P C nt ops r0 H0 w0 done r tm H listed a w) {x : DI} (hx : x ∈ done) (hl : listed.getD x.1 false = false) (hd : ∀ d ∈ depsOf (opAt ops x.1), listed.getD d false = true)
    {Q : Exit → Act → World → Prop} {K : Act → World → Prop} (hk : ∀ a' w' r', Inv P C nt ops r0 H0 w0 done r' tm H (listed.setIfInBounds x.1 true) a' w' → K a' w') : wpOp P ops Q x.1 K a w := by
  obtain ⟨pre, hv, _⟩ := I.built.one x hx
  have hpend := I.pen x hx hl
  have hav : Avail ops done listed (opAt ops x.1) := by
    intro t ht y hy he
    rcases I.built.pair x hx y hy with rfl | ⟨pr, h1, h2⟩ | ⟨pr, h1, h2⟩
    · exact absurd ht (hv.own t he)
    · exact I.mok x hx _ I.clo hd y.1 (h1.reads t ht y h2 he)
    · obtain ⟨a1, a2⟩ := h1.anti t he x h2 ht
      cases hyl : listed.getD y.1 false with
      | true => rfl
      | false => rw [I.lou y hy hyl] at a1; cases a1
  have hops := opAt_get hv.lt
  unfold wpOp
  rw [hops]
  simp only
  rcases hpend.2.2 with ⟨hg, hn⟩ | ⟨hg, h⟩
  · rw [wanted_ok I.tms hav hg]
    simp only [Bool.false_eq_true, if_false]
    exact hk _ _ r (I.list hx hl hd I.sim I.ext (fun _ _ h => h) (fun d v h1 h2 => by rw [hn d h1] at h2; cases h2; simp only [VR, VRL]; exact ⟨[], rfl, rfl⟩) (fun y hy _ hyl => I.pen y hy hyl))
  · rw [wanted_ok I.tms hav hg]
    simp only [if_true]
    refine .inl ?_
    have hρ := seenEv_ok hC I.sim (ops := ops) (done := done) (listed := listed) (tm := tm) (a := a) I.tms
    have heq := seenEv_eq (C := C) (tm := tm) hav
    unfold Oper.wp
    rcases h with ⟨v, h1, h2⟩ | ⟨u, B, b, d, c1, c2, c3, c4, c5, c6⟩
    · rw [aval_congr heq] at h1
      obtain ⟨c, hrun, hcv⟩ := aval_ok hC I.sim hρ (opAt ops x.1) h1
      rw [hrun]
      exact hk _ _ r (I.list hx hl hd I.sim I.ext (fun _ _ h => h) (fun d v' e1 e2 => by rw [h2 d e1] at e2; cases e2; exact hcv) (fun y hy _ hyl => I.pen y hy hyl))
    · rw [mk_congr heq] at c1
      obtain ⟨n, xs, ys, el, fz, c, hrun, g1, g2, g3, g4⟩ := mk_exec (w := w) hC hρ (opAt ops x.1) c1
      rw [hrun]
      have s' := (I.sim.drew n).fill c2 c3 (xs ++ ys) el fz g3 ⟨xs, ys, rfl, g1⟩
      have hle : r.le (upd r b (w.heap.size, (xs ++ ys).length)) := fun k z h => by
        unfold upd
        rw [if_neg (fun e => by subst e; rw [c3] at h; cases h)]; exact h
      have e' : Ext r0 H0 w0 (upd r b (w.heap.size, (xs ++ ys).length)) H (World.alloc { w with drawn := n } (.cells (xs ++ ys).toArray el fz)) := by
        refine ⟨fun k hk => ?_, I.ext.next, ?_, fun k hk hn => ?_, fun k hk => ?_, I.ext.tape, I.ext.os, I.ext.output⟩
        · unfold upd; rw [if_neg (by omega)]; exact I.ext.ren k hk
        · have := I.ext.size; simp; omega
        · have hs := I.ext.size
          rw [alloc_old _ _ k (by show k < w.heap.size; omega)]
          exact I.ext.keep k hk hn
        · rintro ⟨b', B', e, q1, q2, q3⟩
          unfold upd at q3
          by_cases hbb : b' = b
          · rw [if_pos hbb] at q3; cases q3; have := I.ext.size; omega
          · rw [if_neg hbb] at q3; exact I.ext.wrs k hk ⟨b', B', e, q1, q2, q3⟩
      refine hk _ _ _ (I.list hx hl hd s' e' hle (fun d' v' e1 e2 => ?_) (fun y hy hne hyl => (I.pen y hy hyl).ren fun d' b' e1 e2 e3 e4 => ?_))
      · rw [c5] at e1; cases e1; rw [c6] at e2; cases e2
        exact g4 _ b (upd_self _ _ _)
      · unfold upd
        rw [if_neg ?_]
        · exact e4
        · rintro rfl
          obtain ⟨hmk, hsh⟩ := Go.Abs.mk_blk c1
          refine hne (I.inj y hy x hx hyl hl d' d b' e1 c5 e2 hmk e3 ?_)
          rw [c6]
          rcases hsh with ⟨_, _, rfl⟩ | ⟨_, _, _, _, rfl⟩ <;> rfl
end
end Go.Abs
namespace Go.Abs
open Go
section
variable {P : Program} {C : Cfg} {nt : Nat} {ops : Array Oper} {r0 : Ren} {H0 : Heap} {w0 : World} {done : List DI} {r : Ren} {tm : TM} {H : Heap} {listed : Array Bool} {a : Act} {w : World}

theorem achk_mem {C : Cfg} {ops : Array Oper} {tm : TM} {H : Heap} : ∀ {l : List Nat}, achk C ops tm H l → ∀ j ∈ l, ∃ o, ops[j]? = some o ∧ (gval ops tm o = some false ∨ (gval ops tm o = some true ∧ remake C tm H o))
  | [], _, j, hj => by cases hj
  | i :: l, h, j, hj => by
    simp only [achk] at h
    rcases List.mem_cons.1 hj with rfl | hj
    · cases ho : ops[j]? with
      | none => rw [ho] at h; exact h.1.elim
      | some o => rw [ho] at h; exact ⟨o, rfl, h.1⟩
    · exact achk_mem h.2 j hj

theorem mk_blkOf {C : Cfg} {ρ : Operand → Option AV} {op : Op} {v : AV} {B : Blk} (h : Go.Abs.mk C ρ op = some (v, B)) (b : Nat) : blkOf (v.rebase b) = some b := by
  rcases (Go.Abs.mk_blk h).2 with ⟨_, _, rfl⟩ | ⟨_, _, _, _, rfl⟩ <;> rfl

/-- The next loud operation. -/
theorem Inv.loud (hC : COK P C) (I : Inv P C nt ops r0 H0 w0 done r tm H listed a w) {x : DI} {rest : List DI} (hx : VOne ops done x) (hm : lm ops x = false)
    (hd : ∀ d ∈ depsOf (opAt ops x.1), listed.getD d false = true) {KA : TM → Heap → Prop} (h : adraw P C nt ops KA (x :: rest) tm H)
    {Q : Exit → Act → World → Prop} {K : Act → World → Prop}
    (hk : ∀ tm' H' a' w' r', Inv P C nt ops r0 H0 w0 (x :: done) r' tm' H' (listed.setIfInBounds x.1 true) a' w' → adraw P C nt ops KA rest tm' H' → K a' w') : wpOp P ops Q x.1 K a w := by
  have hmx := maskOK_of hx I.mok
  have hops := opAt_get hx.lt
  have hnl : listed.getD x.1 false = false := by
    cases h : listed.getD x.1 false with
    | false => rfl
    | true => obtain ⟨y, hy, e⟩ := I.sub _ h; exact absurd e (hx.new y hy)
  have hlt : x.1 < listed.size := by rw [I.size]; exact hx.lt
  have hav : Avail ops done listed (opAt ops x.1) := fun t ht y hy he => hmx _ I.clo hd y.1 (hx.reads t ht y hy he)
  -- the invariant behind it
  have step : ∀ (v : Option AV) (H' : Heap) (r' : Ren) (w' : World) (c : Value), (∀ d, (opAt ops x.1).dst = some d → d < nt) → (∀ u, v = some u → VR r' u c) → Sim P r' H' w' → Ext r H w r' H' w' →
      achk C ops (puto tm (opAt ops x.1).dst v) H' x.2.2.1 → adraw P C nt ops KA rest (puto tm (opAt ops x.1).dst v) H' → K (a.put (opAt ops x.1).dst c) w' := by
    intro v H' r' w' c hdn hv s' e' hchk hrest
    obtain ⟨p1, p2, p3, p4⟩ := put_tmps a (opAt ops x.1).dst c
    have hun : ∀ y : DI, (listed.setIfInBounds x.1 true).getD y.1 false = false → y.1 ≠ x.1 ∧ listed.getD y.1 false = false := by
      intro y hy
      refine ⟨fun e => ?_, ?_⟩
      · rw [getD_set.2 (.inl ⟨e.symm, hlt⟩)] at hy; cases hy
      · cases h : listed.getD y.1 false with
        | false => rfl
        | true => rw [getD_set.2 (.inr h)] at hy; cases hy
    have hy1 : ∀ y ∈ done, listed.getD y.1 false = false → ∀ d, (opAt ops x.1).dst = some d → d ∉ (opAt ops y.1).looksAt ops := by
      intro y hy hyl d hdd hmm
      have := hmx _ I.clo hd y.1 (hx.anti d hdd y hy hmm).2
      rw [hyl] at this; cases this
    have hget : ∀ y ∈ done, ∀ d, (opAt ops y.1).dst = some d → (puto tm (opAt ops x.1).dst v).get d = tm.get d := by
      intro y hy d hd
      rw [puto_get, if_neg (fun e => hx.dst d e y hy hd)]
    have hle := I.sim.le_of_ext e'
    refine hk _ _ _ _ r' ⟨s', I.ext.trans e', p2.trans I.defs, by simp [I.size], ⟨p1.trans I.tms.1, ?_⟩, ?_, ?_, ⟨hx, I.built⟩, ?_, ?_, ?_, ?_, ?_, ?_, ?_⟩ hrest
    · intro j u hj hall
      rw [puto_get] at hj
      by_cases he : (opAt ops x.1).dst = some j
      · rw [if_pos he] at hj
        exact ⟨c, p4 j he (by rw [I.tms.1]; exact hdn j he), hv u hj⟩
      · rw [if_neg he] at hj
        obtain ⟨q, h1, h2⟩ := I.tms.2 j u hj (fun y hy hdst => by
          rcases getD_set.1 (hall y (List.mem_cons_of_mem _ hy) hdst) with ⟨e, _⟩ | h
          · rw [← e] at hdst; exact absurd hdst he
          · exact h)
        exact ⟨q, (p3 j he).trans h1, VR.mono hle _ _ h2⟩
    · intro i hi
      rcases getD_set.1 hi with ⟨rfl, _⟩ | h
      · exact ⟨x, List.mem_cons_self .., rfl⟩
      · obtain ⟨y, hy, e⟩ := I.sub i h; exact ⟨y, List.mem_cons_of_mem _ hy, e⟩
    · intro i hi d hdd
      rcases getD_set.1 hi with ⟨rfl, _⟩ | h
      · exact getD_set.2 (.inr (hd d hdd))
      · exact getD_set.2 (.inr (I.clo i h d hdd))
    · intro y hy
      rcases List.mem_cons.1 hy with rfl | hy
      · exact hmx
      · exact I.mok y hy
    · intro y hy j hj
      rcases List.mem_cons.1 hy with rfl | hy
      · obtain ⟨z, hz, e⟩ := maskIn_of hx I.min j hj; exact ⟨z, List.mem_cons_of_mem _ hz, e⟩
      · obtain ⟨z, hz, e⟩ := I.min y hy j hj; exact ⟨z, List.mem_cons_of_mem _ hz, e⟩
    · intro y hy z hz e
      rcases List.mem_cons.1 hy with rfl | hy' <;> rcases List.mem_cons.1 hz with rfl | hz'
      · rfl
      · exact absurd e.symm (hx.new z hz')
      · exact absurd e (hx.new y hy')
      · exact I.nod y hy' z hz' e
    · intro y hy z hz d h1 h2
      rcases List.mem_cons.1 hy with rfl | hy' <;> rcases List.mem_cons.1 hz with rfl | hz'
      · rfl
      · exact absurd h2 (hx.dst d h1 z hz')
      · exact absurd h1 (hx.dst d h2 y hy')
      · exact I.dst y hy' z hz' d h1 h2
    · intro y hy hyl
      obtain ⟨n1, n2⟩ := hun y hyl
      rcases List.mem_cons.1 hy with rfl | hy'
      · exact absurd rfl n1
      · -- what stands open is looked at again
        obtain ⟨q1, q2, q3⟩ := I.pen y hy' n2
        have hdy : ∀ d, (opAt ops x.1).dst = some d → (opAt ops y.1).dst ≠ some d := fun d e => hx.dst d e y hy'
        have hgv : gval ops (puto tm (opAt ops x.1).dst v) (opAt ops y.1) = gval ops tm (opAt ops y.1) := by
          cases hdst : (opAt ops x.1).dst with
          | none => rfl
          | some d => exact gval_put (hy1 y hy' n2 d hdst)
        have hop : ∀ z ∈ (opAt ops y.1).op.operands, aev C (puto tm (opAt ops x.1).dst v) z = aev C tm z := by
          intro z hz
          cases hdst : (opAt ops x.1).dst with
          | none => rfl
          | some d => exact aev_put (fun e => by subst e; exact hy1 y hy' n2 d hdst (operand_looks hz))
        refine ⟨q1, q2, ?_⟩
        rw [hgv]
        rcases q3 with ⟨g1, g2⟩ | ⟨g1, g2⟩
        · exact .inl ⟨g1, fun d e => (hget y hy' d e).trans (g2 d e)⟩
        · refine .inr ⟨g1, ?_⟩
          by_cases hpure : pureOp (opAt ops y.1).op = true ∧ mkr (opAt ops y.1) = false
          · -- it hangs on no memory
            rcases g2 with ⟨u, c1, c2⟩ | ⟨u, B, b, d, c1, _⟩
            · exact .inl ⟨u, by rw [aval_congr hop, aval_pure (H' := H) hpure.1]; exact c1, fun d e => (hget y hy' d e).trans (c2 d e)⟩
            · exfalso
              unfold Go.Abs.mk at c1
              have : maker (opAt ops y.1).op = false := hpure.2
              rw [this] at c1; cases c1
          · have hnb : x.2.1.testBit y.1 = false := by
              cases hb : x.2.1.testBit y.1 with
              | false => rfl
              | true => have := hmx _ I.clo hd y.1 hb; rw [n2] at this; cases this
            have hin : y.1 ∈ x.2.2.1 := hx.chk hm y hy' (by
              by_cases h1 : pureOp (opAt ops y.1).op = true
              · right; cases h2 : mkr (opAt ops y.1) with
                | true => rfl
                | false => exact absurd ⟨h1, h2⟩ hpure
              · left; simpa using h1) hnb
            obtain ⟨pre, hvy, _⟩ := I.built.one y hy'
            obtain ⟨o, ho, hch⟩ := achk_mem hchk y.1 hin
            rw [opAt_get hvy.lt] at ho
            cases ho
            rw [hgv, g1] at hch
            rcases hch with h | ⟨_, hre⟩
            · cases h
            · unfold remake at hre
              split at hre
              · rename_i u hu
                refine .inl ⟨u, hu, fun d e => ?_⟩
                rw [e] at hre
                exact hre
              · rename_i hnone
                split at hre
                · rename_i u B d hmk hdst
                  obtain ⟨b, hb, htm⟩ := hre
                  -- the same block as before
                  rcases g2 with ⟨u', c1, c2⟩ | ⟨u', B', b', d', c1, c2, c3, c4, c5, c6⟩
                  · exfalso
                    have hmkr : maker (opAt ops y.1).op = true := by
                      unfold Go.Abs.mk at hmk
                      cases hq : maker (opAt ops y.1).op with
                      | true => rfl
                      | false => rw [hq] at hmk; cases hmk
                    have e1 := c2 d hdst
                    rw [hget y hy' d hdst] at htm
                    rw [e1] at htm
                    cases htm
                    have := mk_blkOf hmk b
                    rw [blkOf_maker hmkr c1] at this
                    cases this
                  · rw [hdst] at c5; cases c5
                    have hmk' := hmk
                    rw [mk_congr hop, c1] at hmk'
                    cases hmk'
                    rw [hget y hy' d hdst, c6] at htm
                    have hbb : b' = b := by
                      have h1 := mk_blkOf c1 b'
                      rw [Option.some.inj htm] at h1
                      exact blkOf_rebase h1
                    subst hbb
                    exact .inr ⟨_, _, b', d, hmk, hb, by rw [e'.ren b' (Heap.lt_of_get c2)]; exact c3, c4, hdst, (hget y hy' d hdst).trans c6⟩
                · exact hre.elim
    · intro y hy hyl
      obtain ⟨n1, n2⟩ := hun y hyl
      rcases List.mem_cons.1 hy with rfl | hy'
      · exact absurd rfl n1
      · exact I.lou y hy' n2
    · intro y hy z hz l1 l2 d d' b h1 h2 m1 m2 q1 q2
      obtain ⟨n1, n2⟩ := hun y l1
      obtain ⟨n3, n4⟩ := hun z l2
      rcases List.mem_cons.1 hy with rfl | hy'
      · exact absurd rfl n1
      · rcases List.mem_cons.1 hz with rfl | hz'
        · exact absurd rfl n3
        · rw [hget y hy' d h1] at q1; rw [hget z hz' d' h2] at q2
          exact I.inj y hy' z hz' n2 n4 d d' b h1 h2 m1 m2 q1 q2
  simp only [adraw, hops] at h
  unfold wpOp
  rw [hops]
  simp only
  split at h
  · rename_i hg
    rw [wanted_ok I.tms hav hg]
    simp only [if_true]
    refine .inl ?_
    have hρ := seenEv_ok hC I.sim (ops := ops) (done := done) (listed := listed) (tm := tm) (a := a) I.tms
    have heq := seenEv_eq (C := C) (tm := tm) hav
    refine aopV_ok hC (aopV_congr heq h) I.sim hρ ?_
    intro v H' r' w' c hK hv s' e'
    obtain ⟨k1, k2, k3⟩ := aput_elim hK
    exact step v H' r' w' c k1 hv s' e' k2 k3
  · rename_i hg
    rw [wanted_ok I.tms hav hg]
    simp only [Bool.false_eq_true, if_false]
    obtain ⟨k1, k2, k3⟩ := aput_elim h
    exact step (some (.tu [])) H r w undef k1 (fun u e => by cases e; simp only [VR, VRL]; exact ⟨[], rfl, rfl⟩) I.sim (Ext.refl _ _ _) k2 k3
  · exact h.elim
end
end Go.Abs
namespace Go.Abs
open Go
section
variable {P : Program} {C : Cfg} {nt : Nat} {ops : Array Oper}

def cnt (ops : Array Oper) (listed : Array Bool) : Nat := (List.range ops.size).countP fun i => !listed.getD i false
theorem countP_lt {α : Type} {p q : α → Bool} : ∀ {l : List α}, (∀ x ∈ l, q x = true → p x = true) → (∃ x ∈ l, p x = true ∧ q x = false) → l.countP q < l.countP p
  | [], _, h => by obtain ⟨x, hx, _⟩ := h; cases hx
  | a :: l, h1, h2 => by
    have hle : l.countP q ≤ l.countP p := List.countP_mono_left fun x hx => h1 x (List.mem_cons_of_mem _ hx)
    obtain ⟨x, hx, hp, hq⟩ := h2
    rw [List.countP_cons, List.countP_cons]
    rcases List.mem_cons.1 hx with rfl | hx
    · rw [hp, hq]; simp; omega
    · have ih := countP_lt (fun x hx => h1 x (List.mem_cons_of_mem _ hx)) ⟨x, hx, hp, hq⟩
      have : (if q a = true then 1 else 0) ≤ if p a = true then 1 else 0 := by
        by_cases h : q a = true
        · rw [if_pos h, if_pos (h1 a (List.mem_cons_self ..) h)]; omega
        · rw [if_neg h]; omega
      omega
theorem cnt_set {listed : Array Bool} {i : Nat} (hs : listed.size = ops.size) (hi : i < ops.size) (hl : listed.getD i false = false) : cnt ops (listed.setIfInBounds i true) < cnt ops listed := by
  refine countP_lt (fun x hx h => ?_) ⟨i, List.mem_range.2 hi, by simp [hl], by rw [getD_set.2 (.inl ⟨rfl, by omega⟩)]; rfl⟩
  cases h2 : listed.getD x false with
  | false => rfl
  | true => rw [getD_set.2 (.inr h2)] at h; cases h

theorem ready_mem {listed : Array Bool} (hs : listed.size = ops.size) {i : Nat} : i ∈ Region.ready .any ops listed ↔ i < ops.size ∧ listed.getD i false = false ∧ ∀ d ∈ depsOf (opAt ops i), listed.getD d false = true := by
  unfold Region.ready
  rw [List.mem_filter, List.mem_range]
  constructor
  · rintro ⟨h1, h2⟩
    rw [Bool.and_eq_true, opAt_get h1] at h2
    obtain ⟨h2, h3⟩ := h2
    refine ⟨h1, ?_, ?_⟩
    · have : listed.getD i true = listed.getD i false := by simp [Array.getD, hs, h1]
      rw [← this]; simpa using h2
    · intro d hd
      simp only [depsOf, List.mem_map, List.mem_filter] at hd
      obtain ⟨e, ⟨he, hb⟩, rfl⟩ := hd
      simp only [Option.map_some, Option.getD_some, Array.all_eq_true_iff_forall_mem] at h3
      have := h3 e (by simpa using he)
      simpa [hb] using this
  · rintro ⟨h1, h2, h3⟩
    refine ⟨h1, ?_⟩
    rw [Bool.and_eq_true, opAt_get h1]
    refine ⟨?_, ?_⟩
    · have : listed.getD i true = listed.getD i false := by simp [Array.getD, hs, h1]
      rw [this, h2]; rfl
    · simp only [Option.map_some, Option.getD_some, Array.all_eq_true_iff_forall_mem]
      intro e he
      cases hb : Region.binds .any e with
      | false => rfl
      | true =>
        have := h3 e.on (by simp only [depsOf, List.mem_map, List.mem_filter]; exact ⟨e, ⟨by simpa using he, hb⟩, rfl⟩)
        simpa using this

variable {r0 : Ren} {H0 : Heap} {w0 : World}

theorem built_listed {listed : Array Bool} (hs : listed.size = ops.size) (hr : Region.ready .any ops listed = []) : ∀ {l : List DI}, Built ops l → ∀ x ∈ l, listed.getD x.1 false = true
  | [], _, x, hx => by cases hx
  | z :: l, h, x, hx => by
    rcases List.mem_cons.1 hx with rfl | hx
    · cases hl : listed.getD x.1 false with
      | true => rfl
      | false =>
        have : x.1 ∈ Region.ready .any ops listed := (ready_mem hs).2 ⟨h.1.lt, hl, fun d hd => by
          obtain ⟨y, hy, rfl⟩ := h.1.deps d hd
          exact built_listed hs hr h.2 y hy⟩
        rw [hr] at this; cases this
    · exact built_listed hs hr h.2 x hx

theorem draw_go (hC : COK P C) {K : TM → Heap → Prop} {Q : Exit → Act → World → Prop}
    (hq : ∀ tm' H' r' w' a', K tm' H' → TMR r' nt tm' a'.tmps → a'.defers = [] → Sim P r' H' w' → Ext r0 H0 w0 r' H' w' → Q .normal a' w') :
    ∀ (fuel : Nat) {done rem : List DI} {r : Ren} {tm : TM} {H : Heap} {listed : Array Bool} {a : Act} {w : World}, cnt ops listed ≤ fuel → Inv P C nt ops r0 H0 w0 done r tm H listed a w → vgo ops done rem = true →
      adraw P C nt ops K rem tm H → (∀ i, i < ops.size → (∃ x ∈ done, x.1 = i) ∨ ∃ x ∈ rem, x.1 = i) → wpAny P .any ops Q fuel listed a w := by
  intro fuel
  induction fuel with
  | zero =>
    intro done rem r tm H listed a w hcnt I hv hd hall
    have hr : Region.ready .any ops listed = [] := by
      apply List.eq_nil_iff_forall_not_mem.2
      intro i hi
      obtain ⟨h1, h2, _⟩ := (ready_mem I.size).1 hi
      have : 0 < cnt ops listed := List.countP_pos_iff.2 ⟨i, List.mem_range.2 h1, by simp [h2]⟩
      omega
    obtain ⟨done', rem', tm', H', I', hv', hd', hl', hall'⟩ := I.advance rem hv hd
    refine ⟨hr, ?_⟩
    have hlist := built_listed I.size hr I'.built
    cases rem' with
    | nil =>
      exact hq tm' H' r w a hd' ⟨I'.tms.1, fun j v hj => I'.tms.2 j v hj fun y hy _ => hlist y hy⟩ I'.defs I'.sim I'.ext
    | cons x rest =>
      exfalso
      simp only [vgo, Bool.and_eq_true] at hv'
      have hx := vone_ok hv'.1
      have hnl : listed.getD x.1 false = false := by
        cases h : listed.getD x.1 false with
        | false => rfl
        | true => obtain ⟨y, hy, e⟩ := I'.sub _ h; exact absurd e (hx.new y hy)
      have : 0 < cnt ops listed := List.countP_pos_iff.2 ⟨x.1, List.mem_range.2 hx.lt, by simp [hnl]⟩
      omega
  | succ fuel ih =>
    intro done rem r tm H listed a w hcnt I hv hd hall
    obtain ⟨done', rem', tm', H', I', hv', hd', hl', hall'⟩ := I.advance rem hv hd
    refine ⟨fun hr => ?_, ?_⟩
    · have hlist := built_listed I.size hr I'.built
      cases rem' with
      | nil =>
        exact hq tm' H' r w a hd' ⟨I'.tms.1, fun j v hj => I'.tms.2 j v hj fun y hy _ => hlist y hy⟩ I'.defs I'.sim I'.ext
      | cons x rest =>
        exfalso
        simp only [vgo, Bool.and_eq_true] at hv'
        have hx := vone_ok hv'.1
        have hnl : listed.getD x.1 false = false := by
          cases h : listed.getD x.1 false with
          | false => rfl
          | true => obtain ⟨y, hy, e⟩ := I'.sub _ h; exact absurd e (hx.new y hy)
        have : x.1 ∈ Region.ready .any ops listed := (ready_mem I.size).2 ⟨hx.lt, hnl, fun d hd => by
          obtain ⟨y, hy, rfl⟩ := hx.deps d hd
          exact hlist y hy⟩
        rw [hr] at this; cases this
    · intro i hi
      obtain ⟨hin, hl, hdeps⟩ := (ready_mem I.size).1 hi
      have hlt := cnt_set I.size hin hl
      rcases hall' i (hall i hin) with ⟨x, hx, rfl⟩ | ⟨x, hx, rfl⟩
      · exact I'.exec hC hx hl hdeps fun a' w' r' I'' => ih (by omega) I'' hv' hd' (fun j hj => hall' j (hall j hj))
      · cases rem' with
        | nil => cases hx
        | cons z rest =>
          have hz := hl' z rest rfl
          have hv'' := hv'
          simp only [vgo, Bool.and_eq_true] at hv''
          have hzv := vone_ok hv''.1
          rcases List.mem_cons.1 hx with rfl | hx
          · refine I'.loud hC hzv hz hdeps hd' fun tm2 H2 a2 w2 r2 I2 hd2 => ih (by omega) I2 hv''.2 hd2 fun j hj => ?_
            rcases hall' j (hall j hj) with ⟨y, hy, e⟩ | ⟨y, hy, e⟩
            · exact .inl ⟨y, List.mem_cons_of_mem _ hy, e⟩
            · rcases List.mem_cons.1 hy with rfl | hy
              · exact .inl ⟨y, List.mem_cons_self .., e⟩
              · exact .inr ⟨y, hy, e⟩
          · exfalso
            obtain ⟨hm, hb⟩ := vgo_later hv''.2 (fun y hy => by rcases List.mem_cons.1 hy with rfl | hy; exact maskOK_of hzv I'.mok; exact I'.mok y hy) x hx
            have hzl : listed.getD z.1 false = true := hm _ I.clo hdeps z.1 (hb z (List.mem_cons_self ..) hz)
            obtain ⟨y, hy, e⟩ := I'.sub _ hzl
            exact hzv.new y hy e

theorem draw_ok (hC : COK P C) {info : List DI} (hv : vdraw ops info = true) {K : TM → Heap → Prop} {r : Ren} {H : Heap} {w : World} {a : Act} {tm : TM} (h : adraw P C nt ops K info tm H) (s : Sim P r H w) (ht : TMR r nt tm a.tmps) (hd : a.defers = [])
    {Q : Exit → Act → World → Prop} (hq : ∀ tm' H' r' w' a', K tm' H' → TMR r' nt tm' a'.tmps → a'.defers = [] → Sim P r' H' w' → Ext r H w r' H' w' → Q .normal a' w') :
    wpAny P .any ops Q ops.size (Array.replicate ops.size false) a { w with drawn := w.drawn + 1 } := by
  simp only [vdraw, Bool.and_eq_true] at hv
  have hrep : ∀ i, (Array.replicate ops.size false).getD i false = false := fun i => by simp [Array.getD]
  refine draw_go hC hq ops.size (done := []) (rem := info) (r := r) (tm := tm) (H := H) ?_ ?_ hv.2 h ?_
  · exact Nat.le_trans List.countP_le_length (by simp)
  · refine ⟨s.drew _, Ext.drew _ _ _ _, hd, by simp, ht.tmd, fun i hi => ?_, fun i hi => ?_, trivial, ?_, ?_, ?_, ?_, ?_, ?_, ?_⟩
    · rw [hrep] at hi; cases hi
    · simp only [hrep] at hi; cases hi
    all_goals (intro x hx; cases hx)
  · intro i hi
    have := List.all_eq_true.1 hv.1 i (List.mem_range.2 hi)
    exact .inr (by simpa using this)
end
end Go.Abs
namespace Go.Abs
open Go

/-- Operations one behind the other, in the text's order. -/
def aops (P : Program) (C : Cfg) (nt : Nat) (ops : Array Oper) (K : TM → Heap → Prop) : List Oper → TM → Heap → Prop
  | [], tm, H => K tm H
  | o :: l, tm, H =>
    match gval ops tm o with
    | some true => aop P C nt o (aops P C nt ops K l) tm H
    | some false => aput nt o.dst (some (.tu [])) tm (fun tm' => aops P C nt ops K l tm' H)
    | none => False

def xthen (next : TM → Heap → Prop) (K : X → TM → Heap → Prop) : X → TM → Heap → Prop
  | .nrm, tm, H => next tm H
  | x, tm, H => K x tm H
def xblock (id : Nat) (K : X → TM → Heap → Prop) : X → TM → Heap → Prop
  | .ex i, tm, H => if i = id then K .nrm tm H else K (.ex i) tm H
  | x, tm, H => K x tm H

/-- The least that holds what a round makes of it. -/
def aloop (F : (TM → Heap → Prop) → TM → Heap → Prop) (tm : TM) (H : Heap) : Prop := ∀ I : TM → Heap → Prop, (∀ tm H, F I tm H → I tm H) → I tm H

def awp (P : Program) (C : Cfg) (D : Nat → List DI) (nt : Nat) : Code → (X → TM → Heap → Prop) → TM → Heap → Prop
  | .skip, K, tm, H => K .nrm tm H
  | .label _, K, tm, H => K .nrm tm H
  | .ret, K, tm, H => K .ret tm H
  | .exit id, K, tm, H => K (.ex id) tm H
  | .seq a b, K, tm, H => awp P C D nt a (xthen (awp P C D nt b K) K) tm H
  | .cond c a b, K, tm, H =>
    match aev C tm c with
    | some (.b t) => if t = true then awp P C D nt a K tm H else awp P C D nt b K tm H
    | _ => False
  | .block id c, K, tm, H => awp P C D nt c (xblock id K) tm H
  | .scope c, K, tm, H => awp P C D nt c K tm H
  | .loop c, K, tm, H => aloop (fun next => awp P C D nt c (xthen next K)) tm H
  | .region id ops true, K, tm, H => vdraw ops (D id) = true ∧ adraw P C nt ops (K .nrm) (D id) tm H
  | .region _ ops false, K, tm, H => aops P C nt ops (K .nrm) ops.toList tm H
  | _, _, _, _ => False

section
variable {P : Program} {C : Cfg} {D : Nat → List DI} {nt : Nat}

theorem gval_ok {ops : Array Oper} {r : Ren} {tm : TM} {a : Act} (ht : TMR r nt tm a.tmps) {o : Oper} {b : Bool} (h : gval ops tm o = some b) : Region.wanted o (yielded ops a.tmps) = b := by
  unfold gval at h
  unfold Region.wanted
  cases hgu : o.guard with
  | none => rw [hgu] at h; simpa using h
  | some gw =>
    obtain ⟨g, want⟩ := gw
    rw [hgu] at h
    simp only at h ⊢
    cases hdst : (ops[g]?).bind (·.dst) with
    | none => rw [hdst] at h; cases h
    | some t =>
      rw [hdst] at h
      simp only [Option.bind_some] at h
      split at h
      · rename_i q hq
        obtain ⟨c, h1, h2⟩ := ht.2 t _ hq
        simp only [VR] at h2
        subst h2
        have : yielded ops a.tmps g = some q := by
          unfold yielded
          rw [hdst]
          simp [h1]
        rw [this]
        cases h
        cases q <;> cases want <;> rfl
      · rename_i hq
        obtain ⟨c, h1, h2⟩ := ht.2 t _ hq
        simp only [VR, VRL] at h2
        obtain ⟨x, rfl, rfl⟩ := h2
        have : yielded ops a.tmps g = none := by
          unfold yielded
          rw [hdst]
          simp [h1]
        rw [this]
        cases h
        rfl
      · cases h

theorem aops_ok (hC : COK P C) {ops : Array Oper} {K : TM → Heap → Prop} {Q : Exit → Act → World → Prop} : ∀ (l : List Oper) {r : Ren} {tm : TM} {H : Heap} {a : Act} {w : World},
    aops P C nt ops K l tm H → Sim P r H w → TMR r nt tm a.tmps → a.defers = [] →
    (∀ tm' H' r' w' a', K tm' H' → TMR r' nt tm' a'.tmps → a'.defers = [] → Sim P r' H' w' → Ext r H w r' H' w' → Q .normal a' w') → wpList P ops Q l a w
  | [], r, tm, H, a, w, h, s, ht, hd, hq => hq _ _ _ _ _ h ht hd s (Ext.refl _ _ _)
  | o :: l, r, tm, H, a, w, h, s, ht, hd, hq => by
    simp only [aops] at h
    unfold wpList
    split at h
    · rename_i hg
      rw [gval_ok ht hg]
      simp only [if_true]
      refine .inl (aop_ok hC h s ht hd ?_)
      intro tm' H' r' w' a' hK ht' hd' s' e'
      exact aops_ok hC l hK s' ht' hd' fun tm2 H2 r2 w2 a2 k2 t2 d2 s2 e2 => hq _ _ _ _ _ k2 t2 d2 s2 (e'.trans e2)
    · rename_i hg
      rw [gval_ok ht hg]
      simp only [Bool.false_eq_true, if_false]
      refine aput_ok (P := P) (K := aops P C nt ops K l) (r := r) (H := H) (w := w) (next := wpList P ops Q l) ?_ ht hd s (Ext.refl _ _ _) (v := some (.tu [])) (c := undef) (fun _ e => by cases e; simp only [VR, VRL]; exact ⟨[], rfl, rfl⟩) h
      intro tm' H' r' w' a' hK ht' hd' s' e'
      exact aops_ok hC l hK s' ht' hd' fun tm2 H2 r2 w2 a2 k2 t2 d2 s2 e2 => hq _ _ _ _ _ k2 t2 d2 s2 (e'.trans e2)
    · exact h.elim

/-- What the answer of code stands for. -/
def Post (P : Program) (nt : Nat) (r : Ren) (H : Heap) (w : World) (K : X → TM → Heap → Prop) (Q : Exit → Act → World → Prop) : Prop :=
  ∀ x tm' H' r' w' a', K x tm' H' → TMR r' nt tm' a'.tmps → a'.defers = [] → Sim P r' H' w' → Ext r H w r' H' w' → Q x.exit a' w'

theorem wp_region_list' {id : Nat} {ops : Array Oper} {Q : Exit → Act → World → Prop} {a : Act} {w : World} (h : wpList P ops Q ops.toList a w) : (Code.region id ops false).wp P Q a w := wp_region_list h

theorem awp_ok (hC : COK P C) (hmix : P.follows .mixedOrders = true) : ∀ (c : Code) {K : X → TM → Heap → Prop} {tm : TM} {H : Heap}, awp P C D nt c K tm H → ∀ {r : Ren} {w : World} {a : Act} {Q : Exit → Act → World → Prop},
    Sim P r H w → TMR r nt tm a.tmps → a.defers = [] → Post P nt r H w K Q → c.wp P Q a w := by
  intro c
  induction c with
  | skip => intro K tm H h r w a Q s ht hd hq; exact wp_skip (hq _ _ _ _ _ _ h ht hd s (Ext.refl _ _ _))
  | label l => intro K tm H h r w a Q s ht hd hq; exact wp_label (hq _ _ _ _ _ _ h ht hd s (Ext.refl _ _ _))
  | ret => intro K tm H h r w a Q s ht hd hq; exact wp_ret (hq _ _ _ _ _ _ h ht hd s (Ext.refl _ _ _))
  | exit id => intro K tm H h r w a Q s ht hd hq; exact wp_exit (hq _ _ _ _ _ _ h ht hd s (Ext.refl _ _ _))
  | seq x y ihx ihy =>
    intro K tm H h r w a Q s ht hd hq
    simp only [awp] at h
    refine wp_seq (ihx h s ht hd ?_)
    intro e tm' H' r' w' a' hK ht' hd' s' e'
    cases e with
    | nrm => exact ihy hK s' ht' hd' fun x t2 H2 r2 w2 a2 k2 m2 d2 s2 e2 => hq _ _ _ _ _ _ k2 m2 d2 s2 (e'.trans e2)
    | ret => exact hq .ret _ _ _ _ _ hK ht' hd' s' e'
    | ex id => exact hq (.ex id) _ _ _ _ _ hK ht' hd' s' e'
  | cond c x y ihx ihy =>
    intro K tm H h r w a Q s ht hd hq
    simp only [awp] at h
    split at h
    · rename_i t hc
      have hv := aev_ok hC s ht hc
      simp only [VR] at hv
      refine wp_cond hv ?_
      split at h
      · rename_i ht'; rw [if_pos ht']; exact ihx h s ht hd hq
      · rename_i ht'; rw [if_neg ht']; exact ihy h s ht hd hq
    · exact h.elim
  | block id c ih =>
    intro K tm H h r w a Q s ht hd hq
    simp only [awp] at h
    refine wp_block (ih h s ht hd ?_)
    intro e tm' H' r' w' a' hK ht' hd' s' e'
    cases e with
    | nrm => exact hq .nrm _ _ _ _ _ hK ht' hd' s' e'
    | ret => exact hq .ret _ _ _ _ _ hK ht' hd' s' e'
    | ex i =>
      simp only [xblock] at hK
      simp only [X.exit, Exit.inBlock]
      split at hK
      · rename_i hi; rw [if_pos hi]; exact hq .nrm _ _ _ _ _ hK ht' hd' s' e'
      · rename_i hi; rw [if_neg hi]; exact hq (.ex i) _ _ _ _ _ hK ht' hd' s' e'
  | scope c ih =>
    intro K tm H h r w a Q s ht hd hq
    simp only [awp] at h
    refine wp_scope_straight (ih h s ht hd ?_)
    intro e tm' H' r' w' a' hK ht' hd' s' e'
    cases e with
    | nrm => exact hq .nrm _ _ _ _ _ hK ht' hd' s' e'
    | ret => exact hq .ret _ _ _ _ _ hK ht' hd' s' e'
    | ex i => exact hq (.ex i) _ _ _ _ _ hK ht' hd' s' e'
  | loop c ih =>
    intro K tm H h r w a Q s ht hd hq
    simp only [awp] at h
    have hI := h (fun tm H => ∀ (r : Ren) (w : World) (a : Act) (Q : Exit → Act → World → Prop), Sim P r H w → TMR r nt tm a.tmps → a.defers = [] → Post P nt r H w K Q →
      ∀ (b : Frame) (k : List Item) (cs : List Frame), ∃ e a' w', Q e a' w' ∧ Arrives P (lone (b.at a (.code c :: .inLoop c :: k)) cs w) b k cs e a' w') ?_ r w a Q s ht hd hq
    · intro b k cs
      obtain ⟨e, a', w', h1, h2⟩ := hI b k cs
      exact ⟨e, a', w', h1, .of_steps (.one step_loop) h2⟩
    · intro tm H hF r w a Q s ht hd hq b k cs
      have hw := ih hF (Q := fun e a' w' => match e with
        | .normal => ∀ (b : Frame) (k : List Item) (cs : List Frame), ∃ e a'' w'', Q e a'' w'' ∧ Arrives P (lone (b.at a' (.code c :: .inLoop c :: k)) cs w') b k cs e a'' w''
        | e => Q e a' w') s ht hd (by
          intro e tm' H' r' w' a' hK ht' hd' s' e'
          cases e with
          | nrm => exact hK r' w' a' Q s' ht' hd' fun x t2 H2 r2 w2 a2 k2 m2 d2 s2 e2 => hq _ _ _ _ _ _ k2 m2 d2 s2 (e'.trans e2)
          | ret => exact hq .ret _ _ _ _ _ hK ht' hd' s' e'
          | ex id => exact hq (.ex id) _ _ _ _ _ hK ht' hd' s' e')
      obtain ⟨e, a₁, w₁, hq', harr⟩ := hw b (.inLoop c :: k) cs
      cases e with
      | normal =>
        obtain ⟨e₂, a₂, w₂, hq₂, harr₂⟩ := hq' b k cs
        exact ⟨e₂, a₂, w₂, hq₂, .of_steps (Steps.trans harr (.one step_inLoop)) harr₂⟩
      | exit id => exact ⟨_, a₁, w₁, hq', .pass (x := .inLoop c) rfl (fun _ _ => .inl (by simp)) harr⟩
      | goto l => exact ⟨_, a₁, w₁, hq', .pass (x := .inLoop c) rfl (fun _ _ => .inl (by simp)) harr⟩
      | ret => exact ⟨_, a₁, w₁, hq', .pass (x := .inLoop c) rfl (fun _ _ => .inl (by simp)) harr⟩
      | panic ch => exact ⟨_, a₁, w₁, hq', .pass (x := .inLoop c) rfl (fun _ _ => .inl (by simp)) harr⟩
      | outgrown => exact ⟨_, a₁, w₁, hq', .pass (x := .inLoop c) rfl (fun _ _ => .inl (by simp)) harr⟩
  | region id ops draw =>
    intro K tm H h r w a Q s ht hd hq
    cases draw with
    | true =>
      simp only [awp] at h
      refine wp_region_any hmix ?_
      exact draw_ok hC h.1 h.2 s ht hd fun tm' H' r' w' a' k t d s' e' => hq .nrm _ _ _ _ _ k t d s' e'
    | false =>
      simp only [awp] at h
      exact wp_region_list (aops_ok hC ops.toList h s ht hd fun tm' H' r' w' a' k t d s' e' => hq .nrm _ _ _ _ _ k t d s' e')
  | rangeFunc f ps x y _ _ => intro K tm H h; exact h.elim
  | goto l => intro K tm H h; exact h.elim
  | refuse why => intro K tm H h; exact h.elim

/-- A function's results. -/
def ares1 (C : Cfg) (tm : TM) (H : Heap) : ResultVar → Option AV
  | .tmp t => tm.get t
  | .cell a t => match tm.get a with | some (.p b o) => aload C H t b o | _ => none
def aresl (C : Cfg) (tm : TM) (H : Heap) : List ResultVar → Option (List AV)
  | [] => some []
  | x :: l => match ares1 C tm H x, aresl C tm H l with | some a, some m => some (a :: m) | _, _ => none
def ares (C : Cfg) (tm : TM) (H : Heap) (l : List ResultVar) : Option AV :=
  match aresl C tm H l with
  | some [v] => some v
  | some l => some (.tu l)
  | none => none

def resOne (t : Array Value) : ResultVar → Sem Value
  | .tmp u => pure (t.getD u undef)
  | .cell a u => do loadVar u (← asAddr (t.getD a undef))

theorem aresl_ok (hC : COK P C) {r : Ren} {H : Heap} {w : World} (s : Sim P r H w) {tm : TM} {t : Array Value} (ht : TMR r nt tm t) : ∀ {l : List ResultVar} {m : List AV}, aresl C tm H l = some m →
    ∃ x : List Value, (l.mapM (resOne t)).run P w = .ok x w ∧ VRL r m x
  | [], m, h => by simp only [aresl, Option.some.injEq] at h; subst h; exact ⟨[], rfl, by simp [VRL]⟩
  | z :: l, m, h => by
    simp only [aresl] at h
    split at h
    · rename_i a m' h1 h2
      cases h
      obtain ⟨x, i1, i2⟩ := aresl_ok hC s ht h2
      have one : ∃ c, (resOne t z).run P w = .ok c w ∧ VR r a c := by
        cases z with
        | tmp u =>
          obtain ⟨c, q1, q2⟩ := ht.2 u a h1
          exact ⟨c, by simp [resOne, Array.getD_eq_getD_getElem?, q1], q2⟩
        | cell p u =>
          simp only [ares1] at h1
          split at h1
          · rename_i b o hb
            obtain ⟨c, q1, q2⟩ := ht.2 p _ hb
            obtain ⟨c', q3, q4⟩ := aload_ok (P := P) hC s q2 h1
            refine ⟨c', ?_, q4⟩
            simp only [VR] at q2
            obtain ⟨k, e, _, rfl⟩ := q2
            simp only [resOne, Array.getD_eq_getD_getElem?, q1, Option.getD_some, asAddr, Sem.run_bind, Sem.run_pure, Result.andThen_ok]
            simpa [Instr.loadAt, Instr.sureAddr] using q3
          · cases h1
      obtain ⟨c, o1, o2⟩ := one
      refine ⟨c :: x, ?_, by simp only [VRL]; exact ⟨c, x, rfl, o2, i2⟩⟩
      simp only [List.mapM_cons, Sem.run_bind, o1, Result.andThen_ok, i1, Sem.run_pure]
    · cases h

theorem ares_ok (hC : COK P C) {r : Ren} {H : Heap} {w : World} (s : Sim P r H w) {tm : TM} {t : Array Value} (ht : TMR r nt tm t) {fn : Func} {v : AV} (h : ares C tm H fn.results.toList = some v) :
    ∃ c, (results fn t).run P w = .ok c w ∧ VR r v c := by
  unfold ares at h
  have fin : ∀ m, aresl C tm H fn.results.toList = some m → ∃ x : List Value, VRL r m x ∧ (results fn t).run P w = .ok (if h : x.toArray.size = 1 then x.toArray[0] else .tuple x.toArray) w := by
    intro m hm
    obtain ⟨x, h1, h2⟩ := aresl_ok (P := P) hC s ht hm
    refine ⟨x, h2, ?_⟩
    have hres : results fn t = (do let vs ← fn.results.mapM (resOne t); pure (if h : vs.size = 1 then vs[0] else .tuple vs)) := by
      unfold results; congr 2
    rw [hres]
    simp only [Sem.run_bind]
    rw [Array.mapM_eq_mapM_toList, Sem.run_map, h1]
    rfl
  split at h
  · rename_i u hu
    cases h
    obtain ⟨x, h1, h2⟩ := fin _ hu
    simp only [VRL] at h1
    obtain ⟨c, y, rfl, hv, rfl⟩ := h1
    exact ⟨c, by rw [h2]; simp, hv⟩
  · rename_i l hne hl
    cases h
    obtain ⟨x, h1, h2⟩ := fin _ hl
    refine ⟨.tuple x.toArray, ?_, by simp only [VR]; exact ⟨x, rfl, h1⟩⟩
    rw [h2]
    have hlen := h1.length
    have : ¬ x.toArray.size = 1 := by
      intro e
      have : l.length = 1 := by simp at e; omega
      match l, this with
      | [v], _ => exact hne v rfl
    simp only [this, dite_false]
  · cases h

def tmArgs : Nat → List AV → TM → TM
  | _, [], tm => tm
  | k, v :: l, tm => tmArgs (k + 1) l (tm.put k (some v))

theorem tmArgs_get : ∀ (l : List AV) (k : Nat) (tm : TM) (j : Nat) (v : AV), (tmArgs k l tm).get j = some v → (∃ i, j = k + i ∧ l[i]? = some v) ∨ tm.get j = some v
  | [], k, tm, j, v, h => .inr h
  | u :: l, k, tm, j, v, h => by
    rcases tmArgs_get l (k + 1) (tm.put k (some u)) j v h with ⟨i, rfl, hi⟩ | h
    · exact .inl ⟨i + 1, by omega, by simpa using hi⟩
    · rw [Tr.get_put] at h
      by_cases hkj : k = j
      · subst hkj; rw [if_pos rfl] at h; exact .inl ⟨0, rfl, by simpa using h⟩
      · rw [if_neg hkj] at h; exact .inr h

/-- A function is answered by its body. -/
theorem SCalls.of_body (hC : COK P C) (hmix : P.follows .mixedOrders = true) {f : FuncId} {fn : Func} {c : Code} (hf : P.funcs[f]? = some fn) (hb : fn.body = some c) (hn : (fn.name == "runtime.NumGoroutine") = false)
    {args : List AV} {H : Heap} {Q : AV → Heap → Prop} (hl : args.length ≤ fn.ntmps)
    (h : awp P C D fn.ntmps c (fun x tm' H' => (match x with | .ex _ => False | _ => True) ∧ ∃ v, ares C tm' H' fn.results.toList = some v ∧ Q v H') (tmArgs 0 args .l) H) : SCalls P f args H Q := by
  intro r w cargs s hv
  have hlen := hv.length
  refine .inl ⟨by simp [callFunc, hf, hb]; simpa using hn, calls_of_wp hf hb ?_⟩
  refine awp_ok hC hmix c h s ⟨by simp; omega, ?_⟩ rfl ?_
  · intro j v hj
    rcases tmArgs_get args 0 .l j v hj with ⟨i, rfl, hi⟩ | h
    · obtain ⟨u, h1, h2⟩ := hv.get hi
      refine ⟨u, ?_, h2⟩
      have hil : i < cargs.length := (List.getElem?_eq_some_iff.1 h1).1
      rw [Nat.zero_add, Array.getElem?_append_left (by simpa using hil)]
      simpa using h1
    · cases h
  · intro x tm' H' r' w' a' hK ht' hd' s' e'
    obtain ⟨hx, v, hres, hQ⟩ := hK
    obtain ⟨u, h1, h2⟩ := ares_ok (P := P) hC s' ht' hres
    cases x with
    | nrm => exact ⟨hd', u, h1, v, H', r', u, hQ, rfl, h2, s', e'⟩
    | ret => exact ⟨hd', u, h1, v, H', r', u, hQ, rfl, h2, s', e'⟩
    | ex id => exact hx.elim
end

/- Simp is to look at slots and heaps alone, not into code that is yet to come. -/
@[congr] theorem awp_congr {P : Program} {C : Cfg} {D : Nat → List DI} {nt : Nat} {c : Code} {K : X → TM → Heap → Prop} {tm tm' : TM} {H H' : Heap} (h1 : tm = tm') (h2 : H = H') : awp P C D nt c K tm H = awp P C D nt c K tm' H' := by rw [h1, h2]
@[congr] theorem aops_congr {P : Program} {C : Cfg} {nt : Nat} {ops : Array Oper} {K : TM → Heap → Prop} {l : List Oper} {tm tm' : TM} {H H' : Heap} (h1 : tm = tm') (h2 : H = H') : aops P C nt ops K l tm H = aops P C nt ops K l tm' H' := by rw [h1, h2]
@[congr] theorem adraw_congr {P : Program} {C : Cfg} {nt : Nat} {ops : Array Oper} {K : TM → Heap → Prop} {l : List DI} {tm tm' : TM} {H H' : Heap} (h1 : tm = tm') (h2 : H = H') : adraw P C nt ops K l tm H = adraw P C nt ops K l tm' H' := by rw [h1, h2]
@[congr] theorem aop_congr {P : Program} {C : Cfg} {nt : Nat} {o : Oper} {K : TM → Heap → Prop} {tm tm' : TM} {H H' : Heap} (h1 : tm = tm') (h2 : H = H') : aop P C nt o K tm H = aop P C nt o K tm' H' := by rw [h1, h2]
@[congr] theorem aopV_congr' {P : Program} {C : Cfg} {op : Op} {K : Option AV → Heap → Prop} {ρ : Operand → Option AV} {H H' : Heap} (h2 : H = H') : aopV P C op K ρ H = aopV P C op K ρ H' := by rw [h2]
@[congr] theorem aloop_congr {F : (TM → Heap → Prop) → TM → Heap → Prop} {tm tm' : TM} {H H' : Heap} (h1 : tm = tm') (h2 : H = H') : aloop F tm H = aloop F tm' H' := by rw [h1, h2]
@[congr] theorem SCalls_congr {P : Program} {f : FuncId} {args args' : List AV} {H H' : Heap} {Q : AV → Heap → Prop} (h1 : args = args') (h2 : H = H') : SCalls P f args H Q = SCalls P f args' H' Q := by rw [h1, h2]
@[congr] theorem aput_congr {nt : Nat} {dst : Option Tmp} {v v' : Option AV} {tm : TM} {K : TM → Prop} (h1 : v = v') : aput nt dst v tm K = aput nt dst v' tm K := by rw [h1]
end Go.Abs
namespace Go.Abs
open Go

def fieldsOf (P : Program) : List Field → Option (List (Nat × Nat × TypeId))
  | [] => some []
  | f :: l => match P.info? f.type, fieldsOf P l with | some i, some m => some ((f.offset, i.size, f.type) :: m) | _, _ => none
def kOf (P : Program) : TypeDesc → Option TK
  | .int k => some (.int k)
  | .bool => some .bool
  | .string => some .string
  | .slice e => some (.slice e)
  | .pointer e => some (.ptr e)
  | .struct a => (fieldsOf P a.toList).map .struct
  | .array n e => some (.arr n e)
  | .func _ _ _ => some .func
  | .map k e => some (.map k e)
  | _ => some .other
def tiOf (P : Program) (t : TypeId) : Option TI :=
  match P.info? t, P.underlying t with
  | some x, some d =>
    match x.zero with
    | some z => match cAVs z.cells.toList, kOf P d with | some l, some k => some ⟨k, x.size, x.bytes, l⟩ | _, _ => none
    | none => none
  | _, _ => none

theorem fieldsOf_ok {P : Program} : ∀ {l : List Field} {m : List (Nat × Nat × TypeId)}, fieldsOf P l = some m →
    l.map (fun f => (f.offset, f.type)) = m.map (fun x => (x.1, x.2.2)) ∧ ∀ x ∈ m, (P.info? x.2.2).map (·.size) = some x.2.1
  | [], m, h => by simp only [fieldsOf, Option.some.injEq] at h; subst h; exact ⟨rfl, fun x hx => by cases hx⟩
  | f :: l, m, h => by
    simp only [fieldsOf] at h
    split at h
    · rename_i i m' h1 h2
      cases h
      obtain ⟨i1, i2⟩ := fieldsOf_ok h2
      refine ⟨by simp [i1], fun x hx => ?_⟩
      rcases List.mem_cons.1 hx with rfl | hx
      · simp [h1]
      · exact i2 x hx
    · cases h

theorem kOf_ok {P : Program} {d : TypeDesc} {k : TK} (h : kOf P d = some k) : KOK P d k := by
  cases d <;> simp only [kOf, Option.some.injEq, Option.map_eq_some_iff] at h
  case struct a =>
    obtain ⟨m, h1, rfl⟩ := h
    obtain ⟨i1, i2⟩ := fieldsOf_ok h1
    exact ⟨a, rfl, i1, i2⟩
  all_goals subst h
  all_goals simp [KOK]

theorem tiOf_ok {P : Program} {t : TypeId} {i : TI} (h : tiOf P t = some i) : TIOK P t i := by
  unfold tiOf at h
  split at h
  · rename_i x d hx hd
    split at h
    · rename_i z hz
      split at h
      · rename_i l k hl hk
        cases h
        exact ⟨⟨x, hx, rfl, rfl, z, hz, cAVs_ok hl⟩, ⟨d, hd, kOf_ok hk⟩⟩
      · cases h
    · cases h
  · cases h

/-- The program as the abstract machine knows it. -/
def cfg (P : Program) (nG : Nat) : Cfg := ⟨tiOf P, nG, fun t => flatEq P 9 t && !P.eqGuardType P.depth t⟩
theorem cfg_ok {P : Program} {nG : Nat} (h : nG ≤ P.globals.size) : COK P (cfg P nG) := ⟨fun _ _ h => tiOf_ok h, h, fun _ h => by simpa [cfg] using h⟩
end Go.Abs
namespace Go.Abs
open Go

inductive It where
  | code (c : Code)
  | blk (id : Nat)
  | rd (R : TM → Heap → Prop)

def den (P : Program) (C : Cfg) (D : Nat → List DI) (nt : Nat) : List It → (X → TM → Heap → Prop) → X → TM → Heap → Prop
  | [], Q => Q
  | .code c :: l, Q => xthen (awp P C D nt c (den P C D nt l Q)) (den P C D nt l Q)
  | .blk id :: l, Q => xblock id (den P C D nt l Q)
  | .rd R :: l, Q => xthen R (den P C D nt l Q)

section
variable {P : Program} {C : Cfg} {D : Nat → List DI} {nt : Nat} {l : List It} {Q : X → TM → Heap → Prop} {tm : TM} {H : Heap}

theorem awp_mono : ∀ (c : Code) {K K' : X → TM → Heap → Prop}, (∀ x tm H, K x tm H → K' x tm H) → ∀ {tm : TM} {H : Heap}, awp P C D nt c K tm H → awp P C D nt c K' tm H := by
  have aput_mono : ∀ {dst : Option Tmp} {v : Option AV} {tm : TM} {K K' : TM → Prop}, (∀ tm, K tm → K' tm) → aput nt dst v tm K → aput nt dst v tm K' := by
    intro dst v tm K K' h hk
    cases dst with
    | none => exact h _ hk
    | some d =>
      simp only [aput] at hk ⊢
      by_cases hd : d < nt
      · rw [if_pos hd] at hk ⊢; exact h _ hk
      · rw [if_neg hd] at hk; exact False.elim hk
  have aopV_mono : ∀ {op : Op} {K K' : Option AV → Heap → Prop} {ρ : Operand → Option AV} {H : Heap}, (∀ v H, K v H → K' v H) → aopV P C op K ρ H → aopV P C op K' ρ H := by
    intro op K K' ρ H h hk
    unfold aopV at hk ⊢
    split at hk
    · split at hk
      · split at hk
        · exact h _ _ hk
        · exact hk
      · exact hk
    · split at hk
      · exact SCalls.mono hk fun v H' => h _ _
      · exact hk
    · split at hk
      · exact h _ _ hk
      · split at hk
        · exact h _ _ hk
        · exact hk
  have aops_mono : ∀ {ops : Array Oper} (l : List Oper) {K K' : TM → Heap → Prop} {tm : TM} {H : Heap}, (∀ tm H, K tm H → K' tm H) → aops P C nt ops K l tm H → aops P C nt ops K' l tm H := by
    intro ops l
    induction l with
    | nil => intro K K' tm H h hk; exact h _ _ hk
    | cons o l ih =>
      intro K K' tm H h hk
      simp only [aops] at hk ⊢
      split at hk
      · exact aopV_mono (fun v H' => aput_mono fun tm' => ih h) hk
      · exact aput_mono (fun tm' => ih h) hk
      · exact hk
  have adraw_mono : ∀ {ops : Array Oper} (l : List DI) {K K' : TM → Heap → Prop} {tm : TM} {H : Heap}, (∀ tm H, K tm H → K' tm H) → adraw P C nt ops K l tm H → adraw P C nt ops K' l tm H := by
    intro ops l
    induction l with
    | nil => intro K K' tm H h hk; exact h _ _ hk
    | cons x l ih =>
      intro K K' tm H h hk
      simp only [adraw] at hk ⊢
      split at hk
      · exact hk
      · split at hk
        · exact aopV_mono (fun v H' => aput_mono fun tm' hh => ⟨hh.1, ih h hh.2⟩) hk
        · exact aput_mono (fun tm' hh => ⟨hh.1, ih h hh.2⟩) hk
        · exact hk
  intro c
  induction c with
  | skip => intro K K' h tm H hk; exact h _ _ _ hk
  | label => intro K K' h tm H hk; exact h _ _ _ hk
  | ret => intro K K' h tm H hk; exact h _ _ _ hk
  | exit id => intro K K' h tm H hk; exact h _ _ _ hk
  | seq a b iha ihb =>
    intro K K' h tm H hk
    refine iha (fun x tm H hx => ?_) hk
    cases x with
    | nrm => exact ihb h hx
    | ret => exact h _ _ _ hx
    | ex id => exact h _ _ _ hx
  | cond c a b iha ihb =>
    intro K K' h tm H hk
    simp only [awp] at hk ⊢
    split at hk
    · split at hk
      · rename_i ht; rw [if_pos ht]; exact iha h hk
      · rename_i ht; rw [if_neg ht]; exact ihb h hk
    · exact hk
  | block id c ih =>
    intro K K' h tm H hk
    refine ih (fun x tm H hx => ?_) hk
    cases x with
    | nrm => exact h _ _ _ hx
    | ret => exact h _ _ _ hx
    | ex i =>
      simp only [xblock] at hx ⊢
      split at hx
      · rename_i e; rw [if_pos e]; exact h _ _ _ hx
      · rename_i e; rw [if_neg e]; exact h _ _ _ hx
  | scope c ih => intro K K' h tm H hk; exact ih h hk
  | loop c ih =>
    intro K K' h tm H hk
    intro I hI
    refine hk I fun tm H hF => hI tm H (ih (fun x tm H hx => ?_) hF)
    cases x with
    | nrm => exact hx
    | ret => exact h _ _ _ hx
    | ex id => exact h _ _ _ hx
  | region id ops draw =>
    intro K K' h tm H hk
    cases draw with
    | true => exact ⟨hk.1, adraw_mono _ (h .nrm) hk.2⟩
    | false => exact aops_mono _ (h .nrm) hk
  | rangeFunc f ps x y _ _ => intro K K' h tm H hk; exact hk
  | goto l => intro K K' h tm H hk; exact hk
  | refuse why => intro K K' h tm H hk; exact hk

theorem den_seq {a b : Code} (h : den P C D nt (.code a :: .code b :: l) Q .nrm tm H) : den P C D nt (.code (.seq a b) :: l) Q .nrm tm H := by
  simp only [den, xthen] at h ⊢
  simp only [awp]
  refine awp_mono a (fun x tm H hx => ?_) h
  cases x <;> exact hx
theorem den_skip (h : den P C D nt l Q .nrm tm H) : den P C D nt (.code .skip :: l) Q .nrm tm H := h
theorem den_scope {c : Code} (h : den P C D nt (.code c :: l) Q .nrm tm H) : den P C D nt (.code (.scope c) :: l) Q .nrm tm H := h
theorem den_label {n : Nat} (h : den P C D nt l Q .nrm tm H) : den P C D nt (.code (.label n) :: l) Q .nrm tm H := h
theorem den_ret (h : den P C D nt l Q .ret tm H) : den P C D nt (.code .ret :: l) Q .nrm tm H := h
theorem den_exit {id : Nat} (h : den P C D nt l Q (.ex id) tm H) : den P C D nt (.code (.exit id) :: l) Q .nrm tm H := h
theorem den_block {id : Nat} {c : Code} (h : den P C D nt (.code c :: .blk id :: l) Q .nrm tm H) : den P C D nt (.code (.block id c) :: l) Q .nrm tm H := h
theorem den_cond {c : Operand} {a b : Code} (t : Bool) (hc : aev C tm c = some (.b t)) (ht : t = true → den P C D nt (.code a :: l) Q .nrm tm H) (hf : t = false → den P C D nt (.code b :: l) Q .nrm tm H) :
    den P C D nt (.code (.cond c a b) :: l) Q .nrm tm H := by
  simp only [den, xthen, awp, hc]
  cases t
  · exact hf rfl
  · exact ht rfl
/-- Through what an exit passes. -/
theorem den_blk_nrm {id : Nat} (h : den P C D nt l Q .nrm tm H) : den P C D nt (.blk id :: l) Q .nrm tm H := h
theorem den_blk_ret {id : Nat} (h : den P C D nt l Q .ret tm H) : den P C D nt (.blk id :: l) Q .ret tm H := h
theorem den_blk_ex {id : Nat} (h : den P C D nt l Q .nrm tm H) : den P C D nt (.blk id :: l) Q (.ex id) tm H := by
  simp only [den, xblock, if_true]; exact h
theorem den_blk_ex' {id i : Nat} (hne : i ≠ id) (h : den P C D nt l Q (.ex i) tm H) : den P C D nt (.blk id :: l) Q (.ex i) tm H := by
  simp only [den, xblock, if_neg hne]; exact h
theorem den_code_ret {c : Code} (h : den P C D nt l Q .ret tm H) : den P C D nt (.code c :: l) Q .ret tm H := h
theorem den_code_ex {c : Code} {i : Nat} (h : den P C D nt l Q (.ex i) tm H) : den P C D nt (.code c :: l) Q (.ex i) tm H := h
theorem den_rd_ret {R : TM → Heap → Prop} (h : den P C D nt l Q .ret tm H) : den P C D nt (.rd R :: l) Q .ret tm H := h
theorem den_rd_ex {R : TM → Heap → Prop} {i : Nat} (h : den P C D nt l Q (.ex i) tm H) : den P C D nt (.rd R :: l) Q (.ex i) tm H := h
theorem den_rd {R : TM → Heap → Prop} (h : R tm H) : den P C D nt (.rd R :: l) Q .nrm tm H := h
theorem den_region {id : Nat} {ops : Array Oper} (h : ∀ nx : TM → Heap → Prop, (∀ tm H, den P C D nt l Q .nrm tm H → nx tm H) → aops P C nt ops nx ops.toList tm H) :
    den P C D nt (.code (.region id ops false) :: l) Q .nrm tm H := h _ fun _ _ h => h
theorem den_draw {id : Nat} {ops : Array Oper} (hv : vdraw ops (D id) = true) (h : ∀ nx : TM → Heap → Prop, (∀ tm H, den P C D nt l Q .nrm tm H → nx tm H) → adraw P C nt ops nx (D id) tm H) :
    den P C D nt (.code (.region id ops true) :: l) Q .nrm tm H := ⟨hv, h _ fun _ _ h => h⟩
/-- A loop: what holds at each round's head, and what each round lowers. -/
theorem den_loop {c : Code} (I : Nat → TM → Heap → Prop) (n : Nat) (h0 : I n tm H)
    (round : ∀ k tm H, I k tm H → den P C D nt (.code c :: .rd (fun tm' H' => ∃ j, j < k ∧ I j tm' H') :: l) Q .nrm tm H) : den P C D nt (.code (.loop c) :: l) Q .nrm tm H := by
  simp only [den, xthen, awp]
  induction n using Nat.strongRecOn generalizing tm H with
  | _ n ih =>
    have hr := round n tm H h0
    simp only [den, xthen] at hr
    -- one round, and the rest
    have key : awp P C D nt c (xthen (aloop fun next => awp P C D nt c (xthen next (den P C D nt l Q))) (den P C D nt l Q)) tm H := by
      refine awp_mono c (fun x tm H hx => ?_) hr
      cases x with
      | nrm => obtain ⟨j, hj, hI⟩ := hx; exact ih j hj hI
      | ret => exact hx
      | ex id => exact hx
    intro I hI
    refine hI tm H (awp_mono c (fun x tm H hx => ?_) key)
    cases x with
    | nrm => exact hx I hI
    | ret => exact hx
    | ex id => exact hx
end

/-- A function is answered by its body, the code on a stack. -/
theorem SCalls.of_den {P : Program} {C : Cfg} {D : Nat → List DI} (hC : COK P C) (hmix : P.follows .mixedOrders = true) {f : FuncId} {fn : Func} {c : Code} (hf : P.funcs[f]? = some fn) (hb : fn.body = some c) (hn : (fn.name == "runtime.NumGoroutine") = false)
    {nt : Nat} (hnt : fn.ntmps = nt) {res : List ResultVar} (hres : fn.results.toList = res) {args : List AV} {H : Heap} {Q : AV → Heap → Prop} (hl : args.length ≤ nt)
    (h : ∀ Q' : X → TM → Heap → Prop, (∀ tm H, (∃ v, ares C tm H res = some v ∧ Q v H) → Q' .nrm tm H) → (∀ tm H, (∃ v, ares C tm H res = some v ∧ Q v H) → Q' .ret tm H) → den P C D nt [.code c] Q' .nrm (tmArgs 0 args .l) H) : SCalls P f args H Q := by
  subst hnt hres
  refine SCalls.of_body (D := D) hC hmix hf hb hn hl ?_
  have := h (fun x tm' H' => (match x with | .ex _ => False | _ => True) ∧ ∃ v, ares C tm' H' fn.results.toList = some v ∧ Q v H') (fun _ _ h => ⟨trivial, h⟩) (fun _ _ h => ⟨trivial, h⟩)
  refine awp_mono c (fun x tm H hx => ?_) this
  cases x <;> exact hx
end Go.Abs
