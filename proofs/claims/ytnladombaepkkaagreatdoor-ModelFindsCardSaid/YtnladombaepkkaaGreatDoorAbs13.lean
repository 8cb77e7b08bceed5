/- The abstract machine: calls, code, and that what it answers is what the model answers (regions in the text's order). Conditions: none. -/
import Derived.Test.YtnladombaepkkaaGreatDoorAbs12
import Derived.LoopN
import Derived.Scope
set_option linter.all false
namespace Go.Abs
open Go
section
variable {P : Program} {C : Cfg} {r : Ren} {H : Heap} {w : World}

theorem gives_run {s : Sem Value} {v : AV} {H' : Heap} (h : Gives P r H w s v H') : ∃ c w' r', (do pure (.value (← s)) : Sem Next).run P w = .ok (.value c) w' ∧ VR r' v c ∧ Sim P r' H' w' ∧ Ext r H w r' H' w' := by
  obtain ⟨c, w', r', h1, h2, h3, h4⟩ := h
  exact ⟨c, w', r', by simp only [Sem.run_bind, h1, Result.andThen_ok, Sem.run_pure], h2, h3, h4⟩

theorem amake_ok (hC : COK P C) (s : Sim P r H w) {ρ : Operand → Option AV} {σ : Operand → Value} (hρ : ∀ x v, ρ x = some v → VR r v (σ x)) (o : Oper) {v : AV} {H' : Heap}
    (h : amake C H ρ o.op = some (v, H')) : ∃ c w' r', (execOp σ o).run P w = .ok (.value c) w' ∧ VR r' v c ∧ Sim P r' H' w' ∧ Ext r H w r' H' w' := by
  obtain ⟨dst, op, type, pos, after, guard⟩ := o
  cases op with
  | alloc e =>
    simp only [amake] at h
    split at h
    · rename_i ei he; cases h; exact gives_run ((alloc_ok hC he _ _).gives s rfl)
    · cases h
  | box e x =>
    simp only [amake] at h
    split at h
    · rename_i a ha; cases h; exact gives_run ((box_ok (hρ _ _ ha) e _).gives s rfl)
    · cases h
  | buildSlice t len parts =>
    simp only [amake] at h
    split at h
    · rename_i e _ _ _ ps hT hps
      split at h
      · rename_i ei he
        split at h
        · rename_i hc
          split at h
          · rename_i l hl
            cases h
            obtain ⟨k1, k2⟩ := aparts_ok hρ hps
            have hq : (parts.map fun (p : Nat × Operand) => (p.1, σ p.2)).toList = parts.toList.map fun p => (p.1, σ p.2) := by simp
            exact gives_run ((buildSlice_ok hC hT rfl he hc.1 hc.2 (by rw [hq]; exact k1) (by rw [hq]; exact k2) hl _).gives s rfl)
          · cases h
        · cases h
      · cases h
    · cases h
  | makeSlice t len cap =>
    simp only [amake] at h
    split at h
    · rename_i e _ _ _ k l k' c hT hl hc
      split at h
      · rename_i ei he
        split at h
        · rename_i hcc
          cases h
          obtain ⟨c1, c2, c3, c4, c5⟩ := hcc
          have v1 := hρ _ _ hl
          have v2 := hρ _ _ hc
          simp only [VR] at v1 v2
          have := gives_run ((makeSlice_ok (k := k) (k' := k') hC hT rfl he c1 c2 c3 c4 c5 _).gives s rfl)
          simpa only [execOp, v1, v2] using this
        · cases h
      · cases h
    · cases h
  | convert a b x =>
    simp only [amake] at h
    split at h
    · rename_i hab
      subst hab
      split at h
      · rename_i e _ _ _ b o n c h1 h3
        split at h
        · rename_i B he hB
          split at h
          · rename_i hw
            cases h
            exact gives_run (cast_ok hC s h1 rfl he rfl hB hw (hρ _ _ h3))
          · cases h
        · cases h
      · cases h
    · split at h
      · rename_i e _ _ _ l h1 h2 h3
        split at h
        · rename_i he
          cases h
          have v1 := hρ _ _ h3
          simp only [VR] at v1
          have := gives_run ((strbytes_ok hC h1 rfl h2 rfl he rfl l _).gives s rfl)
          simpa only [execOp, v1] using this
        · cases h
      · cases h
  | call c =>
    obtain ⟨callee, args, argTypes⟩ := c
    simp only [amake] at h
    split at h
    · split at h
      · rename_i a x t u ha ht hu
        have hv := aevs_ok hρ ha
        simp only [VRL] at hv
        obtain ⟨p, y, hy, hpv, q, y', rfl, hqv, rfl⟩ := hv
        have e1 : (args.map σ) = #[p, q] := by
          apply Array.toList_inj.1
          simpa using hy
        have hg := append_ok (P := P) (ty := type) hC s hpv hqv h
        obtain ⟨c, w', r', g1, g2, g3, g4⟩ := hg
        refine ⟨c, w', r', ?_, g2, g3, g4⟩
        have hex : (execOp σ ⟨dst, .call ⟨.builtin .append, args, argTypes⟩, type, pos, after, guard⟩).run P w =
            ((do pure (.value (← Builtin.append_ argTypes type (args.map σ))) : Sem Next)).run P w := rfl
        rw [hex]
        have : (Builtin.append_ argTypes type (args.map σ)).run P w = .ok c w' := by
          rw [← g1, e1]
          simp only [Builtin.append_, ht, hu]
          rfl
        simp only [Sem.run_bind, this, Result.andThen_ok, Sem.run_pure]
      · cases h
    · cases h
  | _ => simp [amake] at h
end

/-- A call of a function, as the abstract machine sees it. -/
def SCalls (P : Program) (f : FuncId) (args : List AV) (H : Heap) (Q : AV → Heap → Prop) : Prop :=
  ∀ (r : Ren) (w : World) (cargs : List Value), Sim P r H w → VRL r args cargs →
    ((callFunc f cargs.toArray).run P w = .ok (.enter f cargs.toArray) w ∧
      Calls P f cargs.toArray w (fun e w' => ∃ v H' r' c, Q v H' ∧ e = .returned c ∧ VR r' v c ∧ Sim P r' H' w' ∧ Ext r H w r' H' w')) ∨
    (∃ c w' v H' r', (callFunc f cargs.toArray).run P w = .ok (.value c) w' ∧ Q v H' ∧ VR r' v c ∧ Sim P r' H' w' ∧ Ext r H w r' H' w')

theorem SCalls.mono {P : Program} {f : FuncId} {args : List AV} {H : Heap} {Q Q' : AV → Heap → Prop} (h : SCalls P f args H Q) (hq : ∀ v H', Q v H' → Q' v H') : SCalls P f args H Q' := by
  intro r w cargs s hv
  rcases h r w cargs s hv with ⟨h1, h2⟩ | ⟨c, w', v, H', r', h1, h2, h3⟩
  · exact .inl ⟨h1, h2.mono fun e w' ⟨v, H', r', c, g, k⟩ => ⟨v, H', r', c, hq _ _ g, k⟩⟩
  · exact .inr ⟨c, w', v, H', r', h1, hq _ _ h2, h3⟩

inductive X where
  | nrm
  | ret
  | ex (id : Nat)
def X.exit : X → Exit
  | .nrm => .normal
  | .ret => .ret
  | .ex id => .exit id

def aput (nt : Nat) (dst : Option Tmp) (v : Option AV) (tm : TM) (K : TM → Prop) : Prop :=
  match dst with
  | none => K tm
  | some d => if d < nt then K (tm.put d v) else False

/-- An operation: its value (none: it has none), and the heap behind it. -/
def aopV (P : Program) (C : Cfg) (op : Op) (K : Option AV → Heap → Prop) (ρ : Operand → Option AV) (H : Heap) : Prop :=
  match op with
  | .store t a x =>
    match ρ a, ρ x with
    | some p, some v => match astore C H t p v with | some H' => K none H' | none => False
    | _, _ => False
  | .call ⟨.value f, args, _⟩ =>
    match ρ f, aevs ρ args.toList with
    | some (.fn (.func g) fi ca), some xs => SCalls P g (fi ++ xs ++ ca) H (fun v H' => K (some v) H')
    | _, _ => False
  | op =>
    match aval C H ρ op with
    | some v => K (some v) H
    | none => match amake C H ρ op with | some (v, H') => K (some v) H' | none => False

def aop (P : Program) (C : Cfg) (nt : Nat) (o : Oper) (K : TM → Heap → Prop) (tm : TM) (H : Heap) : Prop :=
  aopV P C o.op (fun v H' => aput nt o.dst v tm (fun tm' => K tm' H')) (aev C tm) H

/-- The continuation of an operation or of code, in the model. -/
def Next' (P : Program) (nt : Nat) (r : Ren) (H : Heap) (w : World) (K : TM → Heap → Prop) (next : Act → World → Prop) : Prop :=
  ∀ tm' H' r' w' a', K tm' H' → TMR r' nt tm' a'.tmps → a'.defers = [] → Sim P r' H' w' → Ext r H w r' H' w' → next a' w'

theorem TMR.mono {r r' : Ren} {nt : Nat} {tm : TM} {t : Array Value} (h : TMR r nt tm t) (hr : r.le r') : TMR r' nt tm t :=
  ⟨h.1, fun j v hj => let ⟨c, h1, h2⟩ := h.2 j v hj; ⟨c, h1, VR.mono hr _ _ h2⟩⟩
theorem TMR.put {r : Ren} {nt : Nat} {tm : TM} {t : Array Value} (h : TMR r nt tm t) {d : Nat} (hd : d < nt) {v : Option AV} {c : Value} (hv : ∀ a, v = some a → VR r a c) :
    TMR r nt (tm.put d v) (t.setIfInBounds d c) := by
  refine ⟨by simp [h.1], fun j a hj => ?_⟩
  rw [Tr.get_put] at hj
  by_cases hjd : d = j
  · subst hjd
    rw [if_pos rfl] at hj
    exact ⟨c, by rw [Array.getElem?_setIfInBounds_self_of_lt (by rw [h.1]; exact hd)], hv a hj⟩
  · rw [if_neg hjd] at hj
    obtain ⟨x, h1, h2⟩ := h.2 j a hj
    exact ⟨x, by rw [Array.getElem?_setIfInBounds_ne hjd]; exact h1, h2⟩

theorem aput_ok {P : Program} {nt : Nat} {r r' : Ren} {H H' : Heap} {w w' : World} {K : TM → Heap → Prop} {next : Act → World → Prop} (hn : Next' P nt r H w K next)
    {tm : TM} {a : Act} (ht : TMR r' nt tm a.tmps) (hd : a.defers = []) (s : Sim P r' H' w') (e : Ext r H w r' H' w') {dst : Option Tmp} {v : Option AV} {c : Value} (hv : ∀ a, v = some a → VR r' a c)
    (h : aput nt dst v tm (fun tm' => K tm' H')) : next (a.put dst c) w' := by
  cases dst with
  | none => exact hn _ _ _ _ _ h ht hd s e
  | some d =>
    simp only [aput] at h
    split at h
    · rename_i hlt
      exact hn _ _ _ _ _ h (ht.put hlt hv) hd s e
    · exact h.elim

theorem aopV_ok {P : Program} {C : Cfg} (hC : COK P C) {o : Oper} {K : Option AV → Heap → Prop} {ρ : Operand → Option AV} {H : Heap} (h : aopV P C o.op K ρ H)
    {r : Ren} {w : World} {a : Act} (s : Sim P r H w) (hρ : ∀ x v, ρ x = some v → VR r v (a.eval x)) {next : Act → World → Prop} {Q : Exit → Act → World → Prop}
    (hn : ∀ v H' r' w' c, K v H' → (∀ a, v = some a → VR r' a c) → Sim P r' H' w' → Ext r H w r' H' w' → next (a.put o.dst c) w') :
    o.wp P a w next Q := by
  have dflt : (match aval C H ρ o.op with
      | some v => K (some v) H
      | none => match amake C H ρ o.op with | some (v, H') => K (some v) H' | none => False) → o.wp P a w next Q := by
    intro h
    unfold Oper.wp
    split at h
    · rename_i v hv
      obtain ⟨c, hc, hcv⟩ := aval_ok hC s hρ o hv
      rw [hc]
      exact hn _ _ _ _ _ h (fun _ e => by cases e; exact hcv) s (Ext.refl _ _ _)
    · split at h
      · rename_i v H' hv
        obtain ⟨c, w', r', hc, hcv, s', e'⟩ := amake_ok hC s hρ o hv
        rw [hc]
        exact hn _ _ _ _ _ h (fun _ e => by cases e; exact hcv) s' e'
      · exact h.elim
  unfold aopV at h
  split at h
  · rename_i t x y hop
    split at h
    · rename_i p v hp hv
      split at h
      · rename_i H' hH
        obtain ⟨w', h1, s', e'⟩ := store_ok hC s (hρ _ _ hp) (hρ _ _ hv) hH
        unfold Oper.wp
        have : (execOp a.eval o).run P w = .ok .skip w' := by
          simp only [execOp, hop, Sem.run_bind, h1, Result.andThen_ok, Sem.run_pure]
        rw [this]
        exact hn _ _ _ _ _ h (fun _ e => by cases e) s' e'
      · exact h.elim
    · exact h.elim
  · rename_i f args at_ hop
    split at h
    · rename_i g fi ca xs hf hxs
      have vf := hρ _ _ hf
      simp only [VR] at vf
      obtain ⟨x, y, hxy, hx, hy⟩ := vf
      have vx := aevs_ok hρ hxs
      have hall : VRL r (fi ++ xs ++ ca) (x ++ args.toList.map a.eval ++ y) := (hx.append vx).append hy
      have hrun : (execOp a.eval o).run P w = (callFunc g (x ++ args.toList.map a.eval ++ y).toArray).run P w := by
        simp only [execOp, hop, resolve, hxy, Deferred.ofValue, Sem.run_bind, Sem.run_pure, Result.andThen_ok, invoke]
        congr 2
        apply Array.toList_inj.1
        simp
      unfold Oper.wp
      rw [hrun]
      rcases h r w _ s hall with ⟨h1, h2⟩ | ⟨c, w', v, H', r', h1, h2, h3, s', e'⟩
      · rw [h1]
        simp only [Oper.upon]
        refine h2.mono ?_
        rintro e w'' ⟨v, H', r', c, hq, rfl, hv, s', e'⟩
        exact hn _ _ _ _ _ hq (fun _ e => by cases e; exact hv) s' e'
      · rw [h1]
        exact hn _ _ _ _ _ h2 (fun _ e => by cases e; exact h3) s' e'
    · exact h.elim
  · exact dflt h

theorem aop_ok {P : Program} {C : Cfg} (hC : COK P C) {nt : Nat} {o : Oper} {K : TM → Heap → Prop} {tm : TM} {H : Heap} (h : aop P C nt o K tm H)
    {r : Ren} {w : World} {a : Act} (s : Sim P r H w) (ht : TMR r nt tm a.tmps) (hd : a.defers = []) {next : Act → World → Prop} {Q : Exit → Act → World → Prop} (hn : Next' P nt r H w K next) :
    o.wp P a w next Q :=
  aopV_ok hC h s (fun _ _ hx => aev_ok hC s ht hx) fun _ _ _ _ _ hK hv s' e' => aput_ok hn (ht.mono (s.le_of_ext e')) hd s' e' hv hK
end Go.Abs
