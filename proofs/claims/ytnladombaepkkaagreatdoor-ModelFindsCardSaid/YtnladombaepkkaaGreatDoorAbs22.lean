/- The abstract machine: code, and the theorem that what it answers is what the model answers. Conditions: none. -/
import Derived.Test.YtnladombaepkkaaGreatDoorAbs21
set_option linter.all false
namespace Go.Abs
open Go

/-- Operations one behind the other, in the text's order. -/
def aops (P : Program) (C : Cfg) (nt : Nat) (ops : Array Oper) (K : TM → Heap → Prop) : List Oper → TM → Heap → Prop
  | [], tm, H => K tm H
  | o :: l, tm, H =>
    match gval ops tm o with
    | some true => aop P C nt o (aops P C nt ops K l) tm H
    | some false => aput nt o.dst (some (.tu [])) tm (fun tm' => aops P C nt ops K l tm' H)
    | none => False

def xthen (next : TM → Heap → Prop) (K : X → TM → Heap → Prop) : X → TM → Heap → Prop
  | .nrm, tm, H => next tm H
  | x, tm, H => K x tm H
def xblock (id : Nat) (K : X → TM → Heap → Prop) : X → TM → Heap → Prop
  | .ex i, tm, H => if i = id then K .nrm tm H else K (.ex i) tm H
  | x, tm, H => K x tm H

/-- The least that holds what a round makes of it. -/
def aloop (F : (TM → Heap → Prop) → TM → Heap → Prop) (tm : TM) (H : Heap) : Prop := ∀ I : TM → Heap → Prop, (∀ tm H, F I tm H → I tm H) → I tm H

def awp (P : Program) (C : Cfg) (D : Nat → List DI) (nt : Nat) : Code → (X → TM → Heap → Prop) → TM → Heap → Prop
  | .skip, K, tm, H => K .nrm tm H
  | .label _, K, tm, H => K .nrm tm H
  | .ret, K, tm, H => K .ret tm H
  | .exit id, K, tm, H => K (.ex id) tm H
  | .seq a b, K, tm, H => awp P C D nt a (xthen (awp P C D nt b K) K) tm H
  | .cond c a b, K, tm, H =>
    match aev C tm c with
    | some (.b t) => if t = true then awp P C D nt a K tm H else awp P C D nt b K tm H
    | _ => False
  | .block id c, K, tm, H => awp P C D nt c (xblock id K) tm H
  | .scope c, K, tm, H => awp P C D nt c K tm H
  | .loop c, K, tm, H => aloop (fun next => awp P C D nt c (xthen next K)) tm H
  | .region id ops true, K, tm, H => vdraw ops (D id) = true ∧ adraw P C nt ops (K .nrm) (D id) tm H
  | .region _ ops false, K, tm, H => aops P C nt ops (K .nrm) ops.toList tm H
  | _, _, _, _ => False

section
variable {P : Program} {C : Cfg} {D : Nat → List DI} {nt : Nat}

theorem gval_ok {ops : Array Oper} {r : Ren} {tm : TM} {a : Act} (ht : TMR r nt tm a.tmps) {o : Oper} {b : Bool} (h : gval ops tm o = some b) : Region.wanted o (yielded ops a.tmps) = b := by
  unfold gval at h
  unfold Region.wanted
  cases hgu : o.guard with
  | none => rw [hgu] at h; simpa using h
  | some gw =>
    obtain ⟨g, want⟩ := gw
    rw [hgu] at h
    simp only at h ⊢
    cases hdst : (ops[g]?).bind (·.dst) with
    | none => rw [hdst] at h; cases h
    | some t =>
      rw [hdst] at h
      simp only [Option.bind_some] at h
      split at h
      · rename_i q hq
        obtain ⟨c, h1, h2⟩ := ht.2 t _ hq
        simp only [VR] at h2
        subst h2
        have : yielded ops a.tmps g = some q := by
          unfold yielded
          rw [hdst]
          simp [h1]
        rw [this]
        cases h
        cases q <;> cases want <;> rfl
      · rename_i hq
        obtain ⟨c, h1, h2⟩ := ht.2 t _ hq
        simp only [VR, VRL] at h2
        obtain ⟨x, rfl, rfl⟩ := h2
        have : yielded ops a.tmps g = none := by
          unfold yielded
          rw [hdst]
          simp [h1]
        rw [this]
        cases h
        rfl
      · cases h

theorem aops_ok (hC : COK P C) {ops : Array Oper} {K : TM → Heap → Prop} {Q : Exit → Act → World → Prop} : ∀ (l : List Oper) {r : Ren} {tm : TM} {H : Heap} {a : Act} {w : World},
    aops P C nt ops K l tm H → Sim P r H w → TMR r nt tm a.tmps → a.defers = [] →
    (∀ tm' H' r' w' a', K tm' H' → TMR r' nt tm' a'.tmps → a'.defers = [] → Sim P r' H' w' → Ext r H w r' H' w' → Q .normal a' w') → wpList P ops Q l a w
  | [], r, tm, H, a, w, h, s, ht, hd, hq => hq _ _ _ _ _ h ht hd s (Ext.refl _ _ _)
  | o :: l, r, tm, H, a, w, h, s, ht, hd, hq => by
    simp only [aops] at h
    unfold wpList
    split at h
    · rename_i hg
      rw [gval_ok ht hg]
      simp only [if_true]
      refine .inl (aop_ok hC h s ht hd ?_)
      intro tm' H' r' w' a' hK ht' hd' s' e'
      exact aops_ok hC l hK s' ht' hd' fun tm2 H2 r2 w2 a2 k2 t2 d2 s2 e2 => hq _ _ _ _ _ k2 t2 d2 s2 (e'.trans e2)
    · rename_i hg
      rw [gval_ok ht hg]
      simp only [Bool.false_eq_true, if_false]
      refine aput_ok (P := P) (K := aops P C nt ops K l) (r := r) (H := H) (w := w) (next := wpList P ops Q l) ?_ ht hd s (Ext.refl _ _ _) (v := some (.tu [])) (c := undef) (fun _ e => by cases e; simp only [VR, VRL]; exact ⟨[], rfl, rfl⟩) h
      intro tm' H' r' w' a' hK ht' hd' s' e'
      exact aops_ok hC l hK s' ht' hd' fun tm2 H2 r2 w2 a2 k2 t2 d2 s2 e2 => hq _ _ _ _ _ k2 t2 d2 s2 (e'.trans e2)
    · exact h.elim

/-- What the answer of code stands for. -/
def Post (P : Program) (nt : Nat) (r : Ren) (H : Heap) (w : World) (K : X → TM → Heap → Prop) (Q : Exit → Act → World → Prop) : Prop :=
  ∀ x tm' H' r' w' a', K x tm' H' → TMR r' nt tm' a'.tmps → a'.defers = [] → Sim P r' H' w' → Ext r H w r' H' w' → Q x.exit a' w'

theorem wp_region_list' {id : Nat} {ops : Array Oper} {Q : Exit → Act → World → Prop} {a : Act} {w : World} (h : wpList P ops Q ops.toList a w) : (Code.region id ops false).wp P Q a w := wp_region_list h

theorem awp_ok (hC : COK P C) (hmix : P.follows .mixedOrders = true) : ∀ (c : Code) {K : X → TM → Heap → Prop} {tm : TM} {H : Heap}, awp P C D nt c K tm H → ∀ {r : Ren} {w : World} {a : Act} {Q : Exit → Act → World → Prop},
    Sim P r H w → TMR r nt tm a.tmps → a.defers = [] → Post P nt r H w K Q → c.wp P Q a w := by
  intro c
  induction c with
  | skip => intro K tm H h r w a Q s ht hd hq; exact wp_skip (hq _ _ _ _ _ _ h ht hd s (Ext.refl _ _ _))
  | label l => intro K tm H h r w a Q s ht hd hq; exact wp_label (hq _ _ _ _ _ _ h ht hd s (Ext.refl _ _ _))
  | ret => intro K tm H h r w a Q s ht hd hq; exact wp_ret (hq _ _ _ _ _ _ h ht hd s (Ext.refl _ _ _))
  | exit id => intro K tm H h r w a Q s ht hd hq; exact wp_exit (hq _ _ _ _ _ _ h ht hd s (Ext.refl _ _ _))
  | seq x y ihx ihy =>
    intro K tm H h r w a Q s ht hd hq
    simp only [awp] at h
    refine wp_seq (ihx h s ht hd ?_)
    intro e tm' H' r' w' a' hK ht' hd' s' e'
    cases e with
    | nrm => exact ihy hK s' ht' hd' fun x t2 H2 r2 w2 a2 k2 m2 d2 s2 e2 => hq _ _ _ _ _ _ k2 m2 d2 s2 (e'.trans e2)
    | ret => exact hq .ret _ _ _ _ _ hK ht' hd' s' e'
    | ex id => exact hq (.ex id) _ _ _ _ _ hK ht' hd' s' e'
  | cond c x y ihx ihy =>
    intro K tm H h r w a Q s ht hd hq
    simp only [awp] at h
    split at h
    · rename_i t hc
      have hv := aev_ok hC s ht hc
      simp only [VR] at hv
      refine wp_cond hv ?_
      split at h
      · rename_i ht'; rw [if_pos ht']; exact ihx h s ht hd hq
      · rename_i ht'; rw [if_neg ht']; exact ihy h s ht hd hq
    · exact h.elim
  | block id c ih =>
    intro K tm H h r w a Q s ht hd hq
    simp only [awp] at h
    refine wp_block (ih h s ht hd ?_)
    intro e tm' H' r' w' a' hK ht' hd' s' e'
    cases e with
    | nrm => exact hq .nrm _ _ _ _ _ hK ht' hd' s' e'
    | ret => exact hq .ret _ _ _ _ _ hK ht' hd' s' e'
    | ex i =>
      simp only [xblock] at hK
      simp only [X.exit, Exit.inBlock]
      split at hK
      · rename_i hi; rw [if_pos hi]; exact hq .nrm _ _ _ _ _ hK ht' hd' s' e'
      · rename_i hi; rw [if_neg hi]; exact hq (.ex i) _ _ _ _ _ hK ht' hd' s' e'
  | scope c ih =>
    intro K tm H h r w a Q s ht hd hq
    simp only [awp] at h
    refine wp_scope_straight (ih h s ht hd ?_)
    intro e tm' H' r' w' a' hK ht' hd' s' e'
    cases e with
    | nrm => exact hq .nrm _ _ _ _ _ hK ht' hd' s' e'
    | ret => exact hq .ret _ _ _ _ _ hK ht' hd' s' e'
    | ex i => exact hq (.ex i) _ _ _ _ _ hK ht' hd' s' e'
  | loop c ih =>
    intro K tm H h r w a Q s ht hd hq
    simp only [awp] at h
    have hI := h (fun tm H => ∀ (r : Ren) (w : World) (a : Act) (Q : Exit → Act → World → Prop), Sim P r H w → TMR r nt tm a.tmps → a.defers = [] → Post P nt r H w K Q →
      ∀ (b : Frame) (k : List Item) (cs : List Frame), ∃ e a' w', Q e a' w' ∧ Arrives P (lone (b.at a (.code c :: .inLoop c :: k)) cs w) b k cs e a' w') ?_ r w a Q s ht hd hq
    · intro b k cs
      obtain ⟨e, a', w', h1, h2⟩ := hI b k cs
      exact ⟨e, a', w', h1, .of_steps (.one step_loop) h2⟩
    · intro tm H hF r w a Q s ht hd hq b k cs
      have hw := ih hF (Q := fun e a' w' => match e with
        | .normal => ∀ (b : Frame) (k : List Item) (cs : List Frame), ∃ e a'' w'', Q e a'' w'' ∧ Arrives P (lone (b.at a' (.code c :: .inLoop c :: k)) cs w') b k cs e a'' w''
        | e => Q e a' w') s ht hd (by
          intro e tm' H' r' w' a' hK ht' hd' s' e'
          cases e with
          | nrm => exact hK r' w' a' Q s' ht' hd' fun x t2 H2 r2 w2 a2 k2 m2 d2 s2 e2 => hq _ _ _ _ _ _ k2 m2 d2 s2 (e'.trans e2)
          | ret => exact hq .ret _ _ _ _ _ hK ht' hd' s' e'
          | ex id => exact hq (.ex id) _ _ _ _ _ hK ht' hd' s' e')
      obtain ⟨e, a₁, w₁, hq', harr⟩ := hw b (.inLoop c :: k) cs
      cases e with
      | normal =>
        obtain ⟨e₂, a₂, w₂, hq₂, harr₂⟩ := hq' b k cs
        exact ⟨e₂, a₂, w₂, hq₂, .of_steps (Steps.trans harr (.one step_inLoop)) harr₂⟩
      | exit id => exact ⟨_, a₁, w₁, hq', .pass (x := .inLoop c) rfl (fun _ _ => .inl (by simp)) harr⟩
      | goto l => exact ⟨_, a₁, w₁, hq', .pass (x := .inLoop c) rfl (fun _ _ => .inl (by simp)) harr⟩
      | ret => exact ⟨_, a₁, w₁, hq', .pass (x := .inLoop c) rfl (fun _ _ => .inl (by simp)) harr⟩
      | panic ch => exact ⟨_, a₁, w₁, hq', .pass (x := .inLoop c) rfl (fun _ _ => .inl (by simp)) harr⟩
      | outgrown => exact ⟨_, a₁, w₁, hq', .pass (x := .inLoop c) rfl (fun _ _ => .inl (by simp)) harr⟩
  | region id ops draw =>
    intro K tm H h r w a Q s ht hd hq
    cases draw with
    | true =>
      simp only [awp] at h
      refine wp_region_any hmix ?_
      exact draw_ok hC h.1 h.2 s ht hd fun tm' H' r' w' a' k t d s' e' => hq .nrm _ _ _ _ _ k t d s' e'
    | false =>
      simp only [awp] at h
      exact wp_region_list (aops_ok hC ops.toList h s ht hd fun tm' H' r' w' a' k t d s' e' => hq .nrm _ _ _ _ _ k t d s' e')
  | rangeFunc f ps x y _ _ => intro K tm H h; exact h.elim
  | goto l => intro K tm H h; exact h.elim
  | refuse why => intro K tm H h; exact h.elim

/-- A function's results. -/
def ares1 (C : Cfg) (tm : TM) (H : Heap) : ResultVar → Option AV
  | .tmp t => tm.get t
  | .cell a t => match tm.get a with | some (.p b o) => aload C H t b o | _ => none
def aresl (C : Cfg) (tm : TM) (H : Heap) : List ResultVar → Option (List AV)
  | [] => some []
  | x :: l => match ares1 C tm H x, aresl C tm H l with | some a, some m => some (a :: m) | _, _ => none
def ares (C : Cfg) (tm : TM) (H : Heap) (l : List ResultVar) : Option AV :=
  match aresl C tm H l with
  | some [v] => some v
  | some l => some (.tu l)
  | none => none

def resOne (t : Array Value) : ResultVar → Sem Value
  | .tmp u => pure (t.getD u undef)
  | .cell a u => do loadVar u (← asAddr (t.getD a undef))

theorem aresl_ok (hC : COK P C) {r : Ren} {H : Heap} {w : World} (s : Sim P r H w) {tm : TM} {t : Array Value} (ht : TMR r nt tm t) : ∀ {l : List ResultVar} {m : List AV}, aresl C tm H l = some m →
    ∃ x : List Value, (l.mapM (resOne t)).run P w = .ok x w ∧ VRL r m x
  | [], m, h => by simp only [aresl, Option.some.injEq] at h; subst h; exact ⟨[], rfl, by simp [VRL]⟩
  | z :: l, m, h => by
    simp only [aresl] at h
    split at h
    · rename_i a m' h1 h2
      cases h
      obtain ⟨x, i1, i2⟩ := aresl_ok hC s ht h2
      have one : ∃ c, (resOne t z).run P w = .ok c w ∧ VR r a c := by
        cases z with
        | tmp u =>
          obtain ⟨c, q1, q2⟩ := ht.2 u a h1
          exact ⟨c, by simp [resOne, Array.getD_eq_getD_getElem?, q1], q2⟩
        | cell p u =>
          simp only [ares1] at h1
          split at h1
          · rename_i b o hb
            obtain ⟨c, q1, q2⟩ := ht.2 p _ hb
            obtain ⟨c', q3, q4⟩ := aload_ok (P := P) hC s q2 h1
            refine ⟨c', ?_, q4⟩
            simp only [VR] at q2
            obtain ⟨k, e, _, rfl⟩ := q2
            simp only [resOne, Array.getD_eq_getD_getElem?, q1, Option.getD_some, asAddr, Sem.run_bind, Sem.run_pure, Result.andThen_ok]
            simpa [Instr.loadAt, Instr.sureAddr] using q3
          · cases h1
      obtain ⟨c, o1, o2⟩ := one
      refine ⟨c :: x, ?_, by simp only [VRL]; exact ⟨c, x, rfl, o2, i2⟩⟩
      simp only [List.mapM_cons, Sem.run_bind, o1, Result.andThen_ok, i1, Sem.run_pure]
    · cases h

theorem ares_ok (hC : COK P C) {r : Ren} {H : Heap} {w : World} (s : Sim P r H w) {tm : TM} {t : Array Value} (ht : TMR r nt tm t) {fn : Func} {v : AV} (h : ares C tm H fn.results.toList = some v) :
    ∃ c, (results fn t).run P w = .ok c w ∧ VR r v c := by
  unfold ares at h
  have fin : ∀ m, aresl C tm H fn.results.toList = some m → ∃ x : List Value, VRL r m x ∧ (results fn t).run P w = .ok (if h : x.toArray.size = 1 then x.toArray[0] else .tuple x.toArray) w := by
    intro m hm
    obtain ⟨x, h1, h2⟩ := aresl_ok (P := P) hC s ht hm
    refine ⟨x, h2, ?_⟩
    have hres : results fn t = (do let vs ← fn.results.mapM (resOne t); pure (if h : vs.size = 1 then vs[0] else .tuple vs)) := by
      unfold results; congr 2
    rw [hres]
    simp only [Sem.run_bind]
    rw [Array.mapM_eq_mapM_toList, Sem.run_map, h1]
    rfl
  split at h
  · rename_i u hu
    cases h
    obtain ⟨x, h1, h2⟩ := fin _ hu
    simp only [VRL] at h1
    obtain ⟨c, y, rfl, hv, rfl⟩ := h1
    exact ⟨c, by rw [h2]; simp, hv⟩
  · rename_i l hne hl
    cases h
    obtain ⟨x, h1, h2⟩ := fin _ hl
    refine ⟨.tuple x.toArray, ?_, by simp only [VR]; exact ⟨x, rfl, h1⟩⟩
    rw [h2]
    have hlen := h1.length
    have : ¬ x.toArray.size = 1 := by
      intro e
      have : l.length = 1 := by simp at e; omega
      match l, this with
      | [v], _ => exact hne v rfl
    simp only [this, dite_false]
  · cases h

def tmArgs : Nat → List AV → TM → TM
  | _, [], tm => tm
  | k, v :: l, tm => tmArgs (k + 1) l (tm.put k (some v))

theorem tmArgs_get : ∀ (l : List AV) (k : Nat) (tm : TM) (j : Nat) (v : AV), (tmArgs k l tm).get j = some v → (∃ i, j = k + i ∧ l[i]? = some v) ∨ tm.get j = some v
  | [], k, tm, j, v, h => .inr h
  | u :: l, k, tm, j, v, h => by
    rcases tmArgs_get l (k + 1) (tm.put k (some u)) j v h with ⟨i, rfl, hi⟩ | h
    · exact .inl ⟨i + 1, by omega, by simpa using hi⟩
    · rw [Tr.get_put] at h
      by_cases hkj : k = j
      · subst hkj; rw [if_pos rfl] at h; exact .inl ⟨0, rfl, by simpa using h⟩
      · rw [if_neg hkj] at h; exact .inr h

/-- A function is answered by its body. -/
theorem SCalls.of_body (hC : COK P C) (hmix : P.follows .mixedOrders = true) {f : FuncId} {fn : Func} {c : Code} (hf : P.funcs[f]? = some fn) (hb : fn.body = some c) (hn : (fn.name == "runtime.NumGoroutine") = false)
    {args : List AV} {H : Heap} {Q : AV → Heap → Prop} (hl : args.length ≤ fn.ntmps)
    (h : awp P C D fn.ntmps c (fun x tm' H' => (match x with | .ex _ => False | _ => True) ∧ ∃ v, ares C tm' H' fn.results.toList = some v ∧ Q v H') (tmArgs 0 args .l) H) : SCalls P f args H Q := by
  intro r w cargs s hv
  have hlen := hv.length
  refine .inl ⟨by simp [callFunc, hf, hb]; simpa using hn, calls_of_wp hf hb ?_⟩
  refine awp_ok hC hmix c h s ⟨by simp; omega, ?_⟩ rfl ?_
  · intro j v hj
    rcases tmArgs_get args 0 .l j v hj with ⟨i, rfl, hi⟩ | h
    · obtain ⟨u, h1, h2⟩ := hv.get hi
      refine ⟨u, ?_, h2⟩
      have hil : i < cargs.length := (List.getElem?_eq_some_iff.1 h1).1
      rw [Nat.zero_add, Array.getElem?_append_left (by simpa using hil)]
      simpa using h1
    · cases h
  · intro x tm' H' r' w' a' hK ht' hd' s' e'
    obtain ⟨hx, v, hres, hQ⟩ := hK
    obtain ⟨u, h1, h2⟩ := ares_ok (P := P) hC s' ht' hres
    cases x with
    | nrm => exact ⟨hd', u, h1, v, H', r', u, hQ, rfl, h2, s', e'⟩
    | ret => exact ⟨hd', u, h1, v, H', r', u, hQ, rfl, h2, s', e'⟩
    | ex id => exact hx.elim
end

/- Simp is to look at slots and heaps alone, not into code that is yet to come. -/
@[congr] theorem awp_congr {P : Program} {C : Cfg} {D : Nat → List DI} {nt : Nat} {c : Code} {K : X → TM → Heap → Prop} {tm tm' : TM} {H H' : Heap} (h1 : tm = tm') (h2 : H = H') : awp P C D nt c K tm H = awp P C D nt c K tm' H' := by rw [h1, h2]
@[congr] theorem aops_congr {P : Program} {C : Cfg} {nt : Nat} {ops : Array Oper} {K : TM → Heap → Prop} {l : List Oper} {tm tm' : TM} {H H' : Heap} (h1 : tm = tm') (h2 : H = H') : aops P C nt ops K l tm H = aops P C nt ops K l tm' H' := by rw [h1, h2]
@[congr] theorem adraw_congr {P : Program} {C : Cfg} {nt : Nat} {ops : Array Oper} {K : TM → Heap → Prop} {l : List DI} {tm tm' : TM} {H H' : Heap} (h1 : tm = tm') (h2 : H = H') : adraw P C nt ops K l tm H = adraw P C nt ops K l tm' H' := by rw [h1, h2]
@[congr] theorem aop_congr {P : Program} {C : Cfg} {nt : Nat} {o : Oper} {K : TM → Heap → Prop} {tm tm' : TM} {H H' : Heap} (h1 : tm = tm') (h2 : H = H') : aop P C nt o K tm H = aop P C nt o K tm' H' := by rw [h1, h2]
@[congr] theorem aopV_congr' {P : Program} {C : Cfg} {op : Op} {K : Option AV → Heap → Prop} {ρ : Operand → Option AV} {H H' : Heap} (h2 : H = H') : aopV P C op K ρ H = aopV P C op K ρ H' := by rw [h2]
@[congr] theorem aloop_congr {F : (TM → Heap → Prop) → TM → Heap → Prop} {tm tm' : TM} {H H' : Heap} (h1 : tm = tm') (h2 : H = H') : aloop F tm H = aloop F tm' H' := by rw [h1, h2]
@[congr] theorem SCalls_congr {P : Program} {f : FuncId} {args args' : List AV} {H H' : Heap} {Q : AV → Heap → Prop} (h1 : args = args') (h2 : H = H') : SCalls P f args H Q = SCalls P f args' H' Q := by rw [h1, h2]
@[congr] theorem aput_congr {nt : Nat} {dst : Option Tmp} {v v' : Option AV} {tm : TM} {K : TM → Prop} (h1 : v = v') : aput nt dst v tm K = aput nt dst v' tm K := by rw [h1]
end Go.Abs
