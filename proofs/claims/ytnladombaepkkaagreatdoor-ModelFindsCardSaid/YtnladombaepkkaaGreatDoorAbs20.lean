/- The abstract machine: a region that draws its order is answered as in the order that is given. Conditions: none. -/
import Derived.Test.YtnladombaepkkaaGreatDoorAbs19
set_option linter.all false
namespace Go.Abs
open Go
section
variable {P : Program} {C : Cfg} {nt : Nat} {ops : Array Oper} {r0 : Ren} {H0 : Heap} {w0 : World} {done : List DI} {r : Ren} {tm : TM} {H : Heap} {listed : Array Bool} {a : Act} {w : World}

theorem achk_mem {C : Cfg} {ops : Array Oper} {tm : TM} {H : Heap} : ∀ {l : List Nat}, achk C ops tm H l → ∀ j ∈ l, ∃ o, ops[j]? = some o ∧ (gval ops tm o = some false ∨ (gval ops tm o = some true ∧ remake C tm H o))
  | [], _, j, hj => by cases hj
  | i :: l, h, j, hj => by
    simp only [achk] at h
    rcases List.mem_cons.1 hj with rfl | hj
    · cases ho : ops[j]? with
      | none => rw [ho] at h; exact h.1.elim
      | some o => rw [ho] at h; exact ⟨o, rfl, h.1⟩
    · exact achk_mem h.2 j hj

theorem mk_blkOf {C : Cfg} {ρ : Operand → Option AV} {op : Op} {v : AV} {B : Blk} (h : Go.Abs.mk C ρ op = some (v, B)) (b : Nat) : blkOf (v.rebase b) = some b := by
  rcases (Go.Abs.mk_blk h).2 with ⟨_, _, rfl⟩ | ⟨_, _, _, _, rfl⟩ <;> rfl

/-- The next loud operation. -/
theorem Inv.loud (hC : COK P C) (I : Inv P C nt ops r0 H0 w0 done r tm H listed a w) {x : DI} {rest : List DI} (hx : VOne ops done x) (hm : lm ops x = false)
    (hd : ∀ d ∈ depsOf (opAt ops x.1), listed.getD d false = true) {KA : TM → Heap → Prop} (h : adraw P C nt ops KA (x :: rest) tm H)
    {Q : Exit → Act → World → Prop} {K : Act → World → Prop}
    (hk : ∀ tm' H' a' w' r', Inv P C nt ops r0 H0 w0 (x :: done) r' tm' H' (listed.setIfInBounds x.1 true) a' w' → adraw P C nt ops KA rest tm' H' → K a' w') : wpOp P ops Q x.1 K a w := by
  have hmx := maskOK_of hx I.mok
  have hops := opAt_get hx.lt
  have hnl : listed.getD x.1 false = false := by
    cases h : listed.getD x.1 false with
    | false => rfl
    | true => obtain ⟨y, hy, e⟩ := I.sub _ h; exact absurd e (hx.new y hy)
  have hlt : x.1 < listed.size := by rw [I.size]; exact hx.lt
  have hav : Avail ops done listed (opAt ops x.1) := fun t ht y hy he => hmx _ I.clo hd y.1 (hx.reads t ht y hy he)
  -- the invariant behind it
  have step : ∀ (v : Option AV) (H' : Heap) (r' : Ren) (w' : World) (c : Value), (∀ d, (opAt ops x.1).dst = some d → d < nt) → (∀ u, v = some u → VR r' u c) → Sim P r' H' w' → Ext r H w r' H' w' →
      achk C ops (puto tm (opAt ops x.1).dst v) H' x.2.2.1 → adraw P C nt ops KA rest (puto tm (opAt ops x.1).dst v) H' → K (a.put (opAt ops x.1).dst c) w' := by
    intro v H' r' w' c hdn hv s' e' hchk hrest
    obtain ⟨p1, p2, p3, p4⟩ := put_tmps a (opAt ops x.1).dst c
    have hun : ∀ y : DI, (listed.setIfInBounds x.1 true).getD y.1 false = false → y.1 ≠ x.1 ∧ listed.getD y.1 false = false := by
      intro y hy
      refine ⟨fun e => ?_, ?_⟩
      · rw [getD_set.2 (.inl ⟨e.symm, hlt⟩)] at hy; cases hy
      · cases h : listed.getD y.1 false with
        | false => rfl
        | true => rw [getD_set.2 (.inr h)] at hy; cases hy
    have hy1 : ∀ y ∈ done, listed.getD y.1 false = false → ∀ d, (opAt ops x.1).dst = some d → d ∉ (opAt ops y.1).looksAt ops := by
      intro y hy hyl d hdd hmm
      have := hmx _ I.clo hd y.1 (hx.anti d hdd y hy hmm).2
      rw [hyl] at this; cases this
    have hget : ∀ y ∈ done, ∀ d, (opAt ops y.1).dst = some d → (puto tm (opAt ops x.1).dst v).get d = tm.get d := by
      intro y hy d hd
      rw [puto_get, if_neg (fun e => hx.dst d e y hy hd)]
    have hle := I.sim.le_of_ext e'
    refine hk _ _ _ _ r' ⟨s', I.ext.trans e', p2.trans I.defs, by simp [I.size], ⟨p1.trans I.tms.1, ?_⟩, ?_, ?_, ⟨hx, I.built⟩, ?_, ?_, ?_, ?_, ?_, ?_, ?_⟩ hrest
    · intro j u hj hall
      rw [puto_get] at hj
      by_cases he : (opAt ops x.1).dst = some j
      · rw [if_pos he] at hj
        exact ⟨c, p4 j he (by rw [I.tms.1]; exact hdn j he), hv u hj⟩
      · rw [if_neg he] at hj
        obtain ⟨q, h1, h2⟩ := I.tms.2 j u hj (fun y hy hdst => by
          rcases getD_set.1 (hall y (List.mem_cons_of_mem _ hy) hdst) with ⟨e, _⟩ | h
          · rw [← e] at hdst; exact absurd hdst he
          · exact h)
        exact ⟨q, (p3 j he).trans h1, VR.mono hle _ _ h2⟩
    · intro i hi
      rcases getD_set.1 hi with ⟨rfl, _⟩ | h
      · exact ⟨x, List.mem_cons_self .., rfl⟩
      · obtain ⟨y, hy, e⟩ := I.sub i h; exact ⟨y, List.mem_cons_of_mem _ hy, e⟩
    · intro i hi d hdd
      rcases getD_set.1 hi with ⟨rfl, _⟩ | h
      · exact getD_set.2 (.inr (hd d hdd))
      · exact getD_set.2 (.inr (I.clo i h d hdd))
    · intro y hy
      rcases List.mem_cons.1 hy with rfl | hy
      · exact hmx
      · exact I.mok y hy
    · intro y hy j hj
      rcases List.mem_cons.1 hy with rfl | hy
      · obtain ⟨z, hz, e⟩ := maskIn_of hx I.min j hj; exact ⟨z, List.mem_cons_of_mem _ hz, e⟩
      · obtain ⟨z, hz, e⟩ := I.min y hy j hj; exact ⟨z, List.mem_cons_of_mem _ hz, e⟩
    · intro y hy z hz e
      rcases List.mem_cons.1 hy with rfl | hy' <;> rcases List.mem_cons.1 hz with rfl | hz'
      · rfl
      · exact absurd e.symm (hx.new z hz')
      · exact absurd e (hx.new y hy')
      · exact I.nod y hy' z hz' e
    · intro y hy z hz d h1 h2
      rcases List.mem_cons.1 hy with rfl | hy' <;> rcases List.mem_cons.1 hz with rfl | hz'
      · rfl
      · exact absurd h2 (hx.dst d h1 z hz')
      · exact absurd h1 (hx.dst d h2 y hy')
      · exact I.dst y hy' z hz' d h1 h2
    · intro y hy hyl
      obtain ⟨n1, n2⟩ := hun y hyl
      rcases List.mem_cons.1 hy with rfl | hy'
      · exact absurd rfl n1
      · -- what stands open is looked at again
        obtain ⟨q1, q2, q3⟩ := I.pen y hy' n2
        have hdy : ∀ d, (opAt ops x.1).dst = some d → (opAt ops y.1).dst ≠ some d := fun d e => hx.dst d e y hy'
        have hgv : gval ops (puto tm (opAt ops x.1).dst v) (opAt ops y.1) = gval ops tm (opAt ops y.1) := by
          cases hdst : (opAt ops x.1).dst with
          | none => rfl
          | some d => exact gval_put (hy1 y hy' n2 d hdst)
        have hop : ∀ z ∈ (opAt ops y.1).op.operands, aev C (puto tm (opAt ops x.1).dst v) z = aev C tm z := by
          intro z hz
          cases hdst : (opAt ops x.1).dst with
          | none => rfl
          | some d => exact aev_put (fun e => by subst e; exact hy1 y hy' n2 d hdst (operand_looks hz))
        refine ⟨q1, q2, ?_⟩
        rw [hgv]
        rcases q3 with ⟨g1, g2⟩ | ⟨g1, g2⟩
        · exact .inl ⟨g1, fun d e => (hget y hy' d e).trans (g2 d e)⟩
        · refine .inr ⟨g1, ?_⟩
          by_cases hpure : pureOp (opAt ops y.1).op = true ∧ mkr (opAt ops y.1) = false
          · -- it hangs on no memory
            rcases g2 with ⟨u, c1, c2⟩ | ⟨u, B, b, d, c1, _⟩
            · exact .inl ⟨u, by rw [aval_congr hop, aval_pure (H' := H) hpure.1]; exact c1, fun d e => (hget y hy' d e).trans (c2 d e)⟩
            · exfalso
              unfold Go.Abs.mk at c1
              have : maker (opAt ops y.1).op = false := hpure.2
              rw [this] at c1; cases c1
          · have hnb : x.2.1.testBit y.1 = false := by
              cases hb : x.2.1.testBit y.1 with
              | false => rfl
              | true => have := hmx _ I.clo hd y.1 hb; rw [n2] at this; cases this
            have hin : y.1 ∈ x.2.2.1 := hx.chk hm y hy' (by
              by_cases h1 : pureOp (opAt ops y.1).op = true
              · right; cases h2 : mkr (opAt ops y.1) with
                | true => rfl
                | false => exact absurd ⟨h1, h2⟩ hpure
              · left; simpa using h1) hnb
            obtain ⟨pre, hvy, _⟩ := I.built.one y hy'
            obtain ⟨o, ho, hch⟩ := achk_mem hchk y.1 hin
            rw [opAt_get hvy.lt] at ho
            cases ho
            rw [hgv, g1] at hch
            rcases hch with h | ⟨_, hre⟩
            · cases h
            · unfold remake at hre
              split at hre
              · rename_i u hu
                refine .inl ⟨u, hu, fun d e => ?_⟩
                rw [e] at hre
                exact hre
              · rename_i hnone
                split at hre
                · rename_i u B d hmk hdst
                  obtain ⟨b, hb, htm⟩ := hre
                  -- the same block as before
                  rcases g2 with ⟨u', c1, c2⟩ | ⟨u', B', b', d', c1, c2, c3, c4, c5, c6⟩
                  · exfalso
                    have hmkr : maker (opAt ops y.1).op = true := by
                      unfold Go.Abs.mk at hmk
                      cases hq : maker (opAt ops y.1).op with
                      | true => rfl
                      | false => rw [hq] at hmk; cases hmk
                    have e1 := c2 d hdst
                    rw [hget y hy' d hdst] at htm
                    rw [e1] at htm
                    cases htm
                    have := mk_blkOf hmk b
                    rw [blkOf_maker hmkr c1] at this
                    cases this
                  · rw [hdst] at c5; cases c5
                    have hmk' := hmk
                    rw [mk_congr hop, c1] at hmk'
                    cases hmk'
                    rw [hget y hy' d hdst, c6] at htm
                    have hbb : b' = b := by
                      have h1 := mk_blkOf c1 b'
                      rw [Option.some.inj htm] at h1
                      exact blkOf_rebase h1
                    subst hbb
                    exact .inr ⟨_, _, b', d, hmk, hb, by rw [e'.ren b' (Heap.lt_of_get c2)]; exact c3, c4, hdst, (hget y hy' d hdst).trans c6⟩
                · exact hre.elim
    · intro y hy hyl
      obtain ⟨n1, n2⟩ := hun y hyl
      rcases List.mem_cons.1 hy with rfl | hy'
      · exact absurd rfl n1
      · exact I.lou y hy' n2
    · intro y hy z hz l1 l2 d d' b h1 h2 m1 m2 q1 q2
      obtain ⟨n1, n2⟩ := hun y l1
      obtain ⟨n3, n4⟩ := hun z l2
      rcases List.mem_cons.1 hy with rfl | hy'
      · exact absurd rfl n1
      · rcases List.mem_cons.1 hz with rfl | hz'
        · exact absurd rfl n3
        · rw [hget y hy' d h1] at q1; rw [hget z hz' d' h2] at q2
          exact I.inj y hy' z hz' n2 n4 d d' b h1 h2 m1 m2 q1 q2
  simp only [adraw, hops] at h
  unfold wpOp
  rw [hops]
  simp only
  split at h
  · rename_i hg
    rw [wanted_ok I.tms hav hg]
    simp only [if_true]
    refine .inl ?_
    have hρ := seenEv_ok hC I.sim (ops := ops) (done := done) (listed := listed) (tm := tm) (a := a) I.tms
    have heq := seenEv_eq (C := C) (tm := tm) hav
    refine aopV_ok hC (aopV_congr heq h) I.sim hρ ?_
    intro v H' r' w' c hK hv s' e'
    obtain ⟨k1, k2, k3⟩ := aput_elim hK
    exact step v H' r' w' c k1 hv s' e' k2 k3
  · rename_i hg
    rw [wanted_ok I.tms hav hg]
    simp only [Bool.false_eq_true, if_false]
    obtain ⟨k1, k2, k3⟩ := aput_elim h
    exact step (some (.tu [])) H r w undef k1 (fun u e => by cases e; simp only [VR, VRL]; exact ⟨[], rfl, rfl⟩) I.sim (Ext.refl _ _ _) k2 k3
  · exact h.elim
end
end Go.Abs
