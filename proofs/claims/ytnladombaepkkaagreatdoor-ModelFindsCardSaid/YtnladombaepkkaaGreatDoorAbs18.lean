/- The abstract machine: the theorem on regions that draw their order, its steps. Conditions: none. -/
import Derived.Test.YtnladombaepkkaaGreatDoorAbs17
set_option linter.all false
namespace Go.Abs
open Go

def puto (tm : TM) (dst : Option Tmp) (v : Option AV) : TM := match dst with | none => tm | some d => tm.put d v
theorem aput_elim {nt : Nat} {dst : Option Tmp} {v : Option AV} {tm : TM} {K : TM → Prop} (h : aput nt dst v tm K) : (∀ d, dst = some d → d < nt) ∧ K (puto tm dst v) := by
  cases dst with
  | none => exact ⟨fun d e => (by cases e), h⟩
  | some d =>
    simp only [aput] at h
    split at h
    · rename_i hd; exact ⟨fun d' e => by cases e; exact hd, h⟩
    · exact h.elim
theorem puto_get {tm : TM} {dst : Option Tmp} {v : Option AV} {j : Nat} : (puto tm dst v).get j = if dst = some j then v else tm.get j := by
  cases dst with
  | none => simp [puto]
  | some d =>
    simp only [puto, Tr.get_put, Option.some.injEq]

theorem Pend.stepo {C : Cfg} {nt : Nat} {ops : Array Oper} {r r' : Ren} {lo : Nat} {tm : TM} {H H' : Heap} {i : Nat} (h : Pend C nt ops r lo tm H i) {dst : Option Tmp} {v : Option AV}
    (hd : ∀ d, dst = some d → d ∉ (opAt ops i).looksAt ops) (hd' : ∀ d, dst = some d → (opAt ops i).dst ≠ some d) (hs : H.Sub H') (hr : ∀ b x, H.get b = some x → r b = none → r' b = none) :
    Pend C nt ops r' lo (puto tm dst v) H' i := by
  cases dst with
  | some d => exact h.step (hd d rfl) (hd' d rfl) hs hr
  | none =>
    obtain ⟨h1, h2, h3⟩ := h
    refine ⟨h1, h2, ?_⟩
    rcases h3 with h | ⟨a, b⟩
    · exact .inl h
    · refine .inr ⟨a, ?_⟩
      rcases b with ⟨u, c1, c2⟩ | ⟨u, B, b, d', c1, c2, c3, c4, c5, c6⟩
      · exact .inl ⟨u, aval_sub hs c1, c2⟩
      · exact .inr ⟨u, B, b, d', c1, hs b B c2, hr b B c2 c3, c4, c5, c6⟩

theorem blkOf_rebase {v : AV} {b k : Nat} (h : blkOf (v.rebase b) = some k) : k = b := by
  cases v <;> simp_all [AV.rebase, blkOf]
theorem blkOf_maker {C : Cfg} {H : Heap} {ρ : Operand → Option AV} {op : Op} {v : AV} (hm : maker op = true) (h : aval C H ρ op = some v) : blkOf v = none := by
  cases op <;> first | (cases hm; done) | skip
  case convert s d x =>
    simp only [aval] at h
    split at h
    · unfold aconv at h
      split at h
      · split at h
        · cases h; rfl
        · cases h; rfl
        · split at h
          · cases h; rfl
          · cases h
        · split at h
          · split at h
            · rename_i B _ _ _
              cases hb : abytes ((B.cells.drop _).take _) with
              | none => rw [hb] at h; cases h
              | some m => rw [hb] at h; cases h; rfl
            · cases h
          · cases h
        · cases h
      · cases h
    · cases h
  all_goals (simp [aval] at h)

section
variable {P : Program} {C : Cfg} {nt : Nat} {ops : Array Oper} {r0 : Ren} {H0 : Heap} {w0 : World} {done : List DI} {r : Ren} {tm : TM} {H : Heap} {listed : Array Bool} {a : Act} {w : World}

/-- A pending maker's block is one of the heap's. -/
theorem Inv.blk_lt (I : Inv P C nt ops r0 H0 w0 done r tm H listed a w) {y : DI} (hy : y ∈ done) (hl : listed.getD y.1 false = false) {d b : Nat} (hd : (opAt ops y.1).dst = some d) (hm : maker (opAt ops y.1).op = true)
    (hb : (tm.get d).bind blkOf = some b) : ∃ B, H.get b = some B ∧ r b = none := by
  obtain ⟨_, _, h3⟩ := I.pen y hy hl
  rcases h3 with ⟨_, h⟩ | ⟨_, ⟨v, h1, h2⟩ | ⟨v, B, k, d', c1, c2, c3, c4, c5, c6⟩⟩
  · rw [h d hd] at hb; simp [blkOf] at hb
  · rw [h2 d hd] at hb; simp only [Option.bind_some] at hb; rw [blkOf_maker hm h1] at hb; cases hb
  · rw [hd] at c5; cases c5
    rw [c6] at hb; simp only [Option.bind_some] at hb
    have := blkOf_rebase hb
    subst this
    exact ⟨B, c2, c3⟩

theorem Inv.push (I : Inv P C nt ops r0 H0 w0 done r tm H listed a w) {x : DI} (hx : VOne ops done x) (hlm : lm ops x = true) {H' : Heap} (hs : H.Sub H') (sim' : Sim P r H' w) (ext' : Ext r0 H0 w0 r H' w) {v : Option AV}
    (hp : Pend C nt ops r H0.next (puto tm (opAt ops x.1).dst v) H' x.1)
    (hinj : maker (opAt ops x.1).op = true → ∀ y ∈ done, listed.getD y.1 false = false → ∀ d' b, (opAt ops y.1).dst = some d' → maker (opAt ops y.1).op = true → (tm.get d').bind blkOf = some b → v.bind blkOf ≠ some b) :
    Inv P C nt ops r0 H0 w0 (x :: done) r (puto tm (opAt ops x.1).dst v) H' listed a w := by
  have hnl : listed.getD x.1 false = false := by
    cases h : listed.getD x.1 false with
    | false => rfl
    | true => obtain ⟨y, hy, e⟩ := I.sub _ h; exact absurd e (hx.new y hy)
  have hy1 : ∀ y ∈ done, ∀ d, (opAt ops x.1).dst = some d → d ∉ (opAt ops y.1).looksAt ops := by
    intro y hy d hd hm'
    have := (hx.anti d hd y hy hm').1
    rw [hlm] at this; cases this
  have hy2 : ∀ y ∈ done, ∀ d, (opAt ops x.1).dst = some d → (opAt ops y.1).dst ≠ some d := fun y hy d hd => hx.dst d hd y hy
  have hget : ∀ y ∈ done, ∀ d, (opAt ops y.1).dst = some d → (puto tm (opAt ops x.1).dst v).get d = tm.get d := by
    intro y hy d hd
    rw [puto_get, if_neg (fun e => hy2 y hy d e hd)]
  refine ⟨sim', ext', I.defs, I.size, ⟨I.tms.1, ?_⟩, ?_, I.clo, ⟨hx, I.built⟩, ?_, ?_, ?_, ?_, ?_, ?_, ?_⟩
  · intro j u hj hall
    rw [puto_get] at hj
    by_cases he : (opAt ops x.1).dst = some j
    · have := hall x (List.mem_cons_self ..) he; rw [hnl] at this; cases this
    · rw [if_neg he] at hj; exact I.tms.2 j u hj fun y hy => hall y (List.mem_cons_of_mem _ hy)
  · intro i hi
    obtain ⟨y, hy, e⟩ := I.sub i hi
    exact ⟨y, List.mem_cons_of_mem _ hy, e⟩
  · intro y hy
    rcases List.mem_cons.1 hy with rfl | hy
    · exact maskOK_of hx I.mok
    · exact I.mok y hy
  · intro y hy j hj
    rcases List.mem_cons.1 hy with rfl | hy
    · obtain ⟨z, hz, e⟩ := maskIn_of hx I.min j hj; exact ⟨z, List.mem_cons_of_mem _ hz, e⟩
    · obtain ⟨z, hz, e⟩ := I.min y hy j hj; exact ⟨z, List.mem_cons_of_mem _ hz, e⟩
  · intro y hy z hz e
    rcases List.mem_cons.1 hy with rfl | hy' <;> rcases List.mem_cons.1 hz with rfl | hz'
    · rfl
    · exact absurd e.symm (hx.new z hz')
    · exact absurd e (hx.new y hy')
    · exact I.nod y hy' z hz' e
  · intro y hy z hz d h1 h2
    rcases List.mem_cons.1 hy with rfl | hy' <;> rcases List.mem_cons.1 hz with rfl | hz'
    · rfl
    · exact absurd h2 (hx.dst d h1 z hz')
    · exact absurd h1 (hx.dst d h2 y hy')
    · exact I.dst y hy' z hz' d h1 h2
  · intro y hy hl
    rcases List.mem_cons.1 hy with rfl | hy
    · exact hp
    · exact (I.pen y hy hl).stepo (hy1 y hy) (hy2 y hy) hs (fun _ _ _ h => h)
  · intro y hy hl
    rcases List.mem_cons.1 hy with rfl | hy
    · exact hlm
    · exact I.lou y hy hl
  · intro y hy z hz l1 l2 d d' b h1 h2 m1 m2 q1 q2
    rcases List.mem_cons.1 hy with rfl | hy' <;> rcases List.mem_cons.1 hz with rfl | hz'
    · rfl
    · rw [puto_get, if_pos h1] at q1; rw [hget z hz' d' h2] at q2
      exact absurd q1 (hinj m1 z hz' l2 d' b h2 m2 q2)
    · rw [puto_get, if_pos h2] at q2; rw [hget y hy' d h1] at q1
      exact absurd q2 (hinj m2 y hy' l1 d b h1 m1 q1)
    · rw [hget y hy' d h1] at q1; rw [hget z hz' d' h2] at q2
      exact I.inj y hy' z hz' l1 l2 d d' b h1 h2 m1 m2 q1 q2

/-- The order goes on to the next loud operation. -/
theorem Inv.advance {K : TM → Heap → Prop} : ∀ (rem : List DI) {done : List DI} {tm : TM} {H : Heap}, Inv P C nt ops r0 H0 w0 done r tm H listed a w → vgo ops done rem = true → adraw P C nt ops K rem tm H →
    ∃ done' rem' tm' H', Inv P C nt ops r0 H0 w0 done' r tm' H' listed a w ∧ vgo ops done' rem' = true ∧ adraw P C nt ops K rem' tm' H' ∧ (∀ x rest, rem' = x :: rest → lm ops x = false) ∧
      (∀ i, ((∃ x ∈ done, x.1 = i) ∨ ∃ x ∈ rem, x.1 = i) → (∃ x ∈ done', x.1 = i) ∨ ∃ x ∈ rem', x.1 = i)
  | [], done, tm, H, I, hv, hd => ⟨done, [], tm, H, I, hv, hd, fun _ _ e => (by cases e), fun _ h => h⟩
  | x :: rest, done, tm, H, I, hv, hd => by
    by_cases hlm : lm ops x = false
    · exact ⟨done, x :: rest, tm, H, I, hv, hd, fun _ _ e => (by cases e; exact hlm), fun _ h => h⟩
    · have hlm : lm ops x = true := by simpa using hlm
      have hm : mild (opAt ops x.1).op = true := by unfold lm at hlm; simp only [Bool.and_eq_true] at hlm; exact hlm.1
      have hv' := hv
      simp only [vgo, Bool.and_eq_true] at hv'
      have hx := vone_ok hv'.1
      have wrapup : ∀ {tm' : TM} {H' : Heap}, Inv P C nt ops r0 H0 w0 (x :: done) r tm' H' listed a w → adraw P C nt ops K rest tm' H' →
          ∃ done' rem' tm' H', Inv P C nt ops r0 H0 w0 done' r tm' H' listed a w ∧ vgo ops done' rem' = true ∧ adraw P C nt ops K rem' tm' H' ∧ (∀ x rest, rem' = x :: rest → lm ops x = false) ∧
          (∀ i, ((∃ z ∈ done, z.1 = i) ∨ ∃ z ∈ x :: rest, z.1 = i) → (∃ z ∈ done', z.1 = i) ∨ ∃ z ∈ rem', z.1 = i) := by
        intro tm' H' I' hd'
        obtain ⟨d', r', t', h', i1, i2, i3, i4, i5⟩ := Inv.advance rest I' hv'.2 hd'
        exact ⟨d', r', t', h', i1, i2, i3, i4, fun i h => i5 i (by
          rcases h with ⟨z, hz, e⟩ | ⟨z, hz, e⟩
          · exact .inl ⟨z, List.mem_cons_of_mem _ hz, e⟩
          · rcases List.mem_cons.1 hz with rfl | hz
            · exact .inl ⟨z, List.mem_cons_self .., e⟩
            · exact .inr ⟨z, hz, e⟩)⟩
      have hmask := hx.own
      simp only [adraw, opAt_get hx.lt] at hd
      split at hd
      · rename_i hg
        rcases mild_cases hm hd with ⟨v, h1, h2⟩ | ⟨u, B, h1, h2⟩
        · obtain ⟨q1, _, q2⟩ := aput_elim h2
          have hop : ∀ z ∈ (opAt ops x.1).op.operands, aev C (puto tm (opAt ops x.1).dst (some v)) z = aev C tm z := by
            intro z hz
            cases hdst : (opAt ops x.1).dst with
            | none => rfl
            | some d => exact aev_put (fun e => by subst e; exact hmask d hdst (operand_looks hz))
          have hgv : gval ops (puto tm (opAt ops x.1).dst (some v)) (opAt ops x.1) = some true := by
            cases hdst : (opAt ops x.1).dst with
            | none => exact hg
            | some d => rw [← hg]; exact gval_put (hmask d hdst)
          refine wrapup (I.push hx hlm (v := some v) (fun _ _ h => h) I.sim I.ext ⟨hm, q1, .inr ⟨hgv, .inl ⟨v, by rw [aval_congr hop]; exact h1, fun d e => by rw [puto_get, if_pos e]⟩⟩⟩ ?_) q2
          intro hmk y hy hl d' b e1 e2 e3
          simp [blkOf_maker hmk h1]
        · obtain ⟨q1, _, q2⟩ := aput_elim h2
          have hmk : maker (opAt ops x.1).op = true := (Go.Abs.mk_blk h1).1
          obtain ⟨d, hdst⟩ := Option.isSome_iff_exists.1 (hx.mdst hmk)
          have hop : ∀ z ∈ (opAt ops x.1).op.operands, aev C (puto tm (opAt ops x.1).dst (some (u.rebase H.next))) z = aev C tm z := by
            intro z hz
            rw [hdst]
            exact aev_put (fun e => by subst e; exact hmask d hdst (operand_looks hz))
          have hgv : gval ops (puto tm (opAt ops x.1).dst (some (u.rebase H.next))) (opAt ops x.1) = some true := by
            rw [hdst, ← hg]; exact gval_put (hmask d hdst)
          have hrn : r H.next = none := by
            cases h : r H.next with
            | none => rfl
            | some z => exact absurd (I.sim.dom _ z.1 z.2 h).1 (Nat.lt_irrefl _)
          have ext' : Ext r0 H0 w0 r (H.alloc B) w := ⟨I.ext.ren, by have := I.ext.next; simp; omega, I.ext.size, I.ext.keep, fun c hc ⟨b, B', e, g1, g2, g3⟩ => I.ext.wrs c hc ⟨b, B', e, by
            rw [Heap.get_alloc] at g1
            split at g1
            · rename_i e2; rw [← e2, hrn] at g3; cases g3
            · exact g1, g2, g3⟩, I.ext.tape, I.ext.os, I.ext.output⟩
          refine wrapup (I.push hx hlm (v := some (u.rebase H.next)) (Heap.sub_alloc H B) (I.sim.ghost B) ext' ⟨hm, q1, .inr ⟨hgv, .inr ⟨u, B, H.next, d, by rw [mk_congr hop]; exact h1, by rw [Heap.get_alloc, if_pos rfl], hrn, I.ext.next, hdst, by rw [puto_get, if_pos hdst]⟩⟩⟩ ?_) q2
          intro _ y hy hl d' b e1 e2 e3 e4
          obtain ⟨B', hB', _⟩ := I.blk_lt hy hl e1 e2 e3
          have := Heap.lt_of_get hB'
          have := blkOf_rebase e4
          omega
      · rename_i hg
        obtain ⟨q1, _, q2⟩ := aput_elim hd
        have hgv : gval ops (puto tm (opAt ops x.1).dst (some (.tu []))) (opAt ops x.1) = some false := by
          cases hdst : (opAt ops x.1).dst with
          | none => exact hg
          | some d => rw [← hg]; exact gval_put (hmask d hdst)
        refine wrapup (I.push hx hlm (v := some (.tu [])) (fun _ _ h => h) I.sim I.ext ⟨hm, q1, .inl ⟨hgv, fun d e => by rw [puto_get, if_pos e]⟩⟩ ?_) q2
        intro _ y hy hl d' b e1 e2 e3
        simp [blkOf]
      · exact hd.elim
end
end Go.Abs
