/- The abstract machine walked by hand: code on a stack, one rule a form. Conditions: none. -/
import Derived.Test.YtnladombaepkkaaGreatDoorAbs23
set_option linter.all false
namespace Go.Abs
open Go

inductive It where
  | code (c : Code)
  | blk (id : Nat)
  | rd (R : TM → Heap → Prop)

def den (P : Program) (C : Cfg) (D : Nat → List DI) (nt : Nat) : List It → (X → TM → Heap → Prop) → X → TM → Heap → Prop
  | [], Q => Q
  | .code c :: l, Q => xthen (awp P C D nt c (den P C D nt l Q)) (den P C D nt l Q)
  | .blk id :: l, Q => xblock id (den P C D nt l Q)
  | .rd R :: l, Q => xthen R (den P C D nt l Q)

section
variable {P : Program} {C : Cfg} {D : Nat → List DI} {nt : Nat} {l : List It} {Q : X → TM → Heap → Prop} {tm : TM} {H : Heap}

theorem awp_mono : ∀ (c : Code) {K K' : X → TM → Heap → Prop}, (∀ x tm H, K x tm H → K' x tm H) → ∀ {tm : TM} {H : Heap}, awp P C D nt c K tm H → awp P C D nt c K' tm H := by
  have aput_mono : ∀ {dst : Option Tmp} {v : Option AV} {tm : TM} {K K' : TM → Prop}, (∀ tm, K tm → K' tm) → aput nt dst v tm K → aput nt dst v tm K' := by
    intro dst v tm K K' h hk
    cases dst with
    | none => exact h _ hk
    | some d =>
      simp only [aput] at hk ⊢
      by_cases hd : d < nt
      · rw [if_pos hd] at hk ⊢; exact h _ hk
      · rw [if_neg hd] at hk; exact False.elim hk
  have aopV_mono : ∀ {op : Op} {K K' : Option AV → Heap → Prop} {ρ : Operand → Option AV} {H : Heap}, (∀ v H, K v H → K' v H) → aopV P C op K ρ H → aopV P C op K' ρ H := by
    intro op K K' ρ H h hk
    unfold aopV at hk ⊢
    split at hk
    · split at hk
      · split at hk
        · exact h _ _ hk
        · exact hk
      · exact hk
    · split at hk
      · exact SCalls.mono hk fun v H' => h _ _
      · exact hk
    · split at hk
      · exact h _ _ hk
      · split at hk
        · exact h _ _ hk
        · exact hk
  have aops_mono : ∀ {ops : Array Oper} (l : List Oper) {K K' : TM → Heap → Prop} {tm : TM} {H : Heap}, (∀ tm H, K tm H → K' tm H) → aops P C nt ops K l tm H → aops P C nt ops K' l tm H := by
    intro ops l
    induction l with
    | nil => intro K K' tm H h hk; exact h _ _ hk
    | cons o l ih =>
      intro K K' tm H h hk
      simp only [aops] at hk ⊢
      split at hk
      · exact aopV_mono (fun v H' => aput_mono fun tm' => ih h) hk
      · exact aput_mono (fun tm' => ih h) hk
      · exact hk
  have adraw_mono : ∀ {ops : Array Oper} (l : List DI) {K K' : TM → Heap → Prop} {tm : TM} {H : Heap}, (∀ tm H, K tm H → K' tm H) → adraw P C nt ops K l tm H → adraw P C nt ops K' l tm H := by
    intro ops l
    induction l with
    | nil => intro K K' tm H h hk; exact h _ _ hk
    | cons x l ih =>
      intro K K' tm H h hk
      simp only [adraw] at hk ⊢
      split at hk
      · exact hk
      · split at hk
        · exact aopV_mono (fun v H' => aput_mono fun tm' hh => ⟨hh.1, ih h hh.2⟩) hk
        · exact aput_mono (fun tm' hh => ⟨hh.1, ih h hh.2⟩) hk
        · exact hk
  intro c
  induction c with
  | skip => intro K K' h tm H hk; exact h _ _ _ hk
  | label => intro K K' h tm H hk; exact h _ _ _ hk
  | ret => intro K K' h tm H hk; exact h _ _ _ hk
  | exit id => intro K K' h tm H hk; exact h _ _ _ hk
  | seq a b iha ihb =>
    intro K K' h tm H hk
    refine iha (fun x tm H hx => ?_) hk
    cases x with
    | nrm => exact ihb h hx
    | ret => exact h _ _ _ hx
    | ex id => exact h _ _ _ hx
  | cond c a b iha ihb =>
    intro K K' h tm H hk
    simp only [awp] at hk ⊢
    split at hk
    · split at hk
      · rename_i ht; rw [if_pos ht]; exact iha h hk
      · rename_i ht; rw [if_neg ht]; exact ihb h hk
    · exact hk
  | block id c ih =>
    intro K K' h tm H hk
    refine ih (fun x tm H hx => ?_) hk
    cases x with
    | nrm => exact h _ _ _ hx
    | ret => exact h _ _ _ hx
    | ex i =>
      simp only [xblock] at hx ⊢
      split at hx
      · rename_i e; rw [if_pos e]; exact h _ _ _ hx
      · rename_i e; rw [if_neg e]; exact h _ _ _ hx
  | scope c ih => intro K K' h tm H hk; exact ih h hk
  | loop c ih =>
    intro K K' h tm H hk
    intro I hI
    refine hk I fun tm H hF => hI tm H (ih (fun x tm H hx => ?_) hF)
    cases x with
    | nrm => exact hx
    | ret => exact h _ _ _ hx
    | ex id => exact h _ _ _ hx
  | region id ops draw =>
    intro K K' h tm H hk
    cases draw with
    | true => exact ⟨hk.1, adraw_mono _ (h .nrm) hk.2⟩
    | false => exact aops_mono _ (h .nrm) hk
  | rangeFunc f ps x y _ _ => intro K K' h tm H hk; exact hk
  | goto l => intro K K' h tm H hk; exact hk
  | refuse why => intro K K' h tm H hk; exact hk

theorem den_seq {a b : Code} (h : den P C D nt (.code a :: .code b :: l) Q .nrm tm H) : den P C D nt (.code (.seq a b) :: l) Q .nrm tm H := by
  simp only [den, xthen] at h ⊢
  simp only [awp]
  refine awp_mono a (fun x tm H hx => ?_) h
  cases x <;> exact hx
theorem den_skip (h : den P C D nt l Q .nrm tm H) : den P C D nt (.code .skip :: l) Q .nrm tm H := h
theorem den_scope {c : Code} (h : den P C D nt (.code c :: l) Q .nrm tm H) : den P C D nt (.code (.scope c) :: l) Q .nrm tm H := h
theorem den_label {n : Nat} (h : den P C D nt l Q .nrm tm H) : den P C D nt (.code (.label n) :: l) Q .nrm tm H := h
theorem den_ret (h : den P C D nt l Q .ret tm H) : den P C D nt (.code .ret :: l) Q .nrm tm H := h
theorem den_exit {id : Nat} (h : den P C D nt l Q (.ex id) tm H) : den P C D nt (.code (.exit id) :: l) Q .nrm tm H := h
theorem den_block {id : Nat} {c : Code} (h : den P C D nt (.code c :: .blk id :: l) Q .nrm tm H) : den P C D nt (.code (.block id c) :: l) Q .nrm tm H := h
theorem den_cond {c : Operand} {a b : Code} (t : Bool) (hc : aev C tm c = some (.b t)) (ht : t = true → den P C D nt (.code a :: l) Q .nrm tm H) (hf : t = false → den P C D nt (.code b :: l) Q .nrm tm H) :
    den P C D nt (.code (.cond c a b) :: l) Q .nrm tm H := by
  simp only [den, xthen, awp, hc]
  cases t
  · exact hf rfl
  · exact ht rfl
/-- Through what an exit passes. -/
theorem den_blk_nrm {id : Nat} (h : den P C D nt l Q .nrm tm H) : den P C D nt (.blk id :: l) Q .nrm tm H := h
theorem den_blk_ret {id : Nat} (h : den P C D nt l Q .ret tm H) : den P C D nt (.blk id :: l) Q .ret tm H := h
theorem den_blk_ex {id : Nat} (h : den P C D nt l Q .nrm tm H) : den P C D nt (.blk id :: l) Q (.ex id) tm H := by
  simp only [den, xblock, if_true]; exact h
theorem den_blk_ex' {id i : Nat} (hne : i ≠ id) (h : den P C D nt l Q (.ex i) tm H) : den P C D nt (.blk id :: l) Q (.ex i) tm H := by
  simp only [den, xblock, if_neg hne]; exact h
theorem den_code_ret {c : Code} (h : den P C D nt l Q .ret tm H) : den P C D nt (.code c :: l) Q .ret tm H := h
theorem den_code_ex {c : Code} {i : Nat} (h : den P C D nt l Q (.ex i) tm H) : den P C D nt (.code c :: l) Q (.ex i) tm H := h
theorem den_rd_ret {R : TM → Heap → Prop} (h : den P C D nt l Q .ret tm H) : den P C D nt (.rd R :: l) Q .ret tm H := h
theorem den_rd_ex {R : TM → Heap → Prop} {i : Nat} (h : den P C D nt l Q (.ex i) tm H) : den P C D nt (.rd R :: l) Q (.ex i) tm H := h
theorem den_rd {R : TM → Heap → Prop} (h : R tm H) : den P C D nt (.rd R :: l) Q .nrm tm H := h
theorem den_region {id : Nat} {ops : Array Oper} (h : ∀ nx : TM → Heap → Prop, (∀ tm H, den P C D nt l Q .nrm tm H → nx tm H) → aops P C nt ops nx ops.toList tm H) :
    den P C D nt (.code (.region id ops false) :: l) Q .nrm tm H := h _ fun _ _ h => h
theorem den_draw {id : Nat} {ops : Array Oper} (hv : vdraw ops (D id) = true) (h : ∀ nx : TM → Heap → Prop, (∀ tm H, den P C D nt l Q .nrm tm H → nx tm H) → adraw P C nt ops nx (D id) tm H) :
    den P C D nt (.code (.region id ops true) :: l) Q .nrm tm H := ⟨hv, h _ fun _ _ h => h⟩
/-- A loop: what holds at each round's head, and what each round lowers. -/
theorem den_loop {c : Code} (I : Nat → TM → Heap → Prop) (n : Nat) (h0 : I n tm H)
    (round : ∀ k tm H, I k tm H → den P C D nt (.code c :: .rd (fun tm' H' => ∃ j, j < k ∧ I j tm' H') :: l) Q .nrm tm H) : den P C D nt (.code (.loop c) :: l) Q .nrm tm H := by
  simp only [den, xthen, awp]
  induction n using Nat.strongRecOn generalizing tm H with
  | _ n ih =>
    have hr := round n tm H h0
    simp only [den, xthen] at hr
    -- one round, and the rest
    have key : awp P C D nt c (xthen (aloop fun next => awp P C D nt c (xthen next (den P C D nt l Q))) (den P C D nt l Q)) tm H := by
      refine awp_mono c (fun x tm H hx => ?_) hr
      cases x with
      | nrm => obtain ⟨j, hj, hI⟩ := hx; exact ih j hj hI
      | ret => exact hx
      | ex id => exact hx
    intro I hI
    refine hI tm H (awp_mono c (fun x tm H hx => ?_) key)
    cases x with
    | nrm => exact hx I hI
    | ret => exact hx
    | ex id => exact hx
end

/-- A function is answered by its body, the code on a stack. -/
theorem SCalls.of_den {P : Program} {C : Cfg} {D : Nat → List DI} (hC : COK P C) (hmix : P.follows .mixedOrders = true) {f : FuncId} {fn : Func} {c : Code} (hf : P.funcs[f]? = some fn) (hb : fn.body = some c) (hn : (fn.name == "runtime.NumGoroutine") = false)
    {nt : Nat} (hnt : fn.ntmps = nt) {res : List ResultVar} (hres : fn.results.toList = res) {args : List AV} {H : Heap} {Q : AV → Heap → Prop} (hl : args.length ≤ nt)
    (h : ∀ Q' : X → TM → Heap → Prop, (∀ tm H, (∃ v, ares C tm H res = some v ∧ Q v H) → Q' .nrm tm H) → (∀ tm H, (∃ v, ares C tm H res = some v ∧ Q v H) → Q' .ret tm H) → den P C D nt [.code c] Q' .nrm (tmArgs 0 args .l) H) : SCalls P f args H Q := by
  subst hnt hres
  refine SCalls.of_body (D := D) hC hmix hf hb hn hl ?_
  have := h (fun x tm' H' => (match x with | .ex _ => False | _ => True) ∧ ∃ v, ares C tm' H' fn.results.toList = some v ∧ Q v H') (fun _ _ h => ⟨trivial, h⟩) (fun _ _ h => ⟨trivial, h⟩)
  refine awp_mono c (fun x tm H hx => ?_) this
  cases x <;> exact hx
end Go.Abs
