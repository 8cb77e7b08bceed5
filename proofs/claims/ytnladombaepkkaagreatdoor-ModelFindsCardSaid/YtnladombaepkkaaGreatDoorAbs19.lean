/- The abstract machine: the theorem on regions that draw their order. Conditions: none. -/
import Derived.Test.YtnladombaepkkaaGreatDoorAbs18
set_option linter.all false
namespace Go.Abs
open Go
section
variable {P : Program} {C : Cfg} {nt : Nat} {ops : Array Oper} {r0 : Ren} {H0 : Heap} {w0 : World} {done : List DI} {r : Ren} {tm : TM} {H : Heap} {listed : Array Bool} {a : Act} {w : World}

theorem put_tmps (a : Act) (dst : Option Tmp) (c : Value) : (a.put dst c).tmps.size = a.tmps.size ∧ (a.put dst c).defers = a.defers ∧
    (∀ j, dst ≠ some j → (a.put dst c).tmps[j]? = a.tmps[j]?) ∧ ∀ d, dst = some d → d < a.tmps.size → (a.put dst c).tmps[d]? = some c := by
  cases dst with
  | none => exact ⟨rfl, rfl, fun _ _ => rfl, fun d e => by cases e⟩
  | some d =>
    refine ⟨by simp [Act.put], rfl, fun j hj => ?_, fun d' e hd => ?_⟩
    · simp only [Act.put]; rw [Array.getElem?_setIfInBounds_ne (fun e => hj (by rw [e]))]
    · cases e; simp only [Act.put]; rw [Array.getElem?_setIfInBounds_self_of_lt hd]

theorem Inv.list (I : Inv P C nt ops r0 H0 w0 done r tm H listed a w) {x : DI} (hx : x ∈ done) (hl : listed.getD x.1 false = false) (hd : ∀ d ∈ depsOf (opAt ops x.1), listed.getD d false = true)
    {r' : Ren} {w' : World} {c : Value} (s' : Sim P r' H w') (e' : Ext r0 H0 w0 r' H w') (hr : r.le r') (hc : ∀ d v, (opAt ops x.1).dst = some d → tm.get d = some v → VR r' v c)
    (hp : ∀ y ∈ done, y.1 ≠ x.1 → listed.getD y.1 false = false → Pend C nt ops r' H0.next tm H y.1) :
    Inv P C nt ops r0 H0 w0 done r' tm H (listed.setIfInBounds x.1 true) (a.put (opAt ops x.1).dst c) w' := by
  obtain ⟨p1, p2, p3, p4⟩ := put_tmps a (opAt ops x.1).dst c
  obtain ⟨pre, hv, _⟩ := I.built.one x hx
  have hlt : x.1 < listed.size := by rw [I.size]; exact hv.lt
  have hun : ∀ y : DI, (listed.setIfInBounds x.1 true).getD y.1 false = false → y.1 ≠ x.1 ∧ listed.getD y.1 false = false := by
    intro y hy
    refine ⟨fun e => ?_, ?_⟩
    · rw [getD_set.2 (.inl ⟨e.symm, hlt⟩)] at hy; cases hy
    · cases h : listed.getD y.1 false with
      | false => rfl
      | true => rw [getD_set.2 (.inr h)] at hy; cases hy
  refine ⟨s', e', p2.trans I.defs, by simp [I.size], ⟨p1.trans I.tms.1, ?_⟩, ?_, ?_, I.built, I.mok, I.min, I.nod, I.dst, ?_, ?_, ?_⟩
  · intro j v hj hall
    by_cases he : (opAt ops x.1).dst = some j
    · have hjn : j < nt := (I.pen x hx hl).2.1 j he
      exact ⟨c, p4 j he (by rw [I.tms.1]; exact hjn), hc j v he hj⟩
    · obtain ⟨u, h1, h2⟩ := I.tms.2 j v hj (fun y hy hdst => by
        rcases getD_set.1 (hall y hy hdst) with ⟨e, _⟩ | h
        · rw [← e] at hdst; exact absurd hdst he
        · exact h)
      exact ⟨u, (p3 j he).trans h1, VR.mono hr _ _ h2⟩
  · intro i hi
    rcases getD_set.1 hi with ⟨rfl, _⟩ | h
    · exact ⟨x, hx, rfl⟩
    · exact I.sub i h
  · intro i hi d hdd
    rcases getD_set.1 hi with ⟨rfl, _⟩ | h
    · exact getD_set.2 (.inr (hd d hdd))
    · exact getD_set.2 (.inr (I.clo i h d hdd))
  · intro y hy hyl
    obtain ⟨h1, h2⟩ := hun y hyl
    exact hp y hy h1 h2
  · intro y hy hyl; exact I.lou y hy (hun y hyl).2
  · intro y hy z hz l1 l2
    exact I.inj y hy z hz (hun y l1).2 (hun z l2).2

theorem Pend.ren {C : Cfg} {nt : Nat} {ops : Array Oper} {r r' : Ren} {lo : Nat} {tm : TM} {H : Heap} {i : Nat} (h : Pend C nt ops r lo tm H i)
    (hr : ∀ d b, (opAt ops i).dst = some d → maker (opAt ops i).op = true → (tm.get d).bind blkOf = some b → r b = none → r' b = none) : Pend C nt ops r' lo tm H i := by
  obtain ⟨h1, h2, h3⟩ := h
  refine ⟨h1, h2, ?_⟩
  rcases h3 with h | ⟨a, h | ⟨u, B, b, d', c1, c2, c3, c4, c5, c6⟩⟩
  · exact .inl h
  · exact .inr ⟨a, .inl h⟩
  · obtain ⟨hmk, hsh⟩ := Go.Abs.mk_blk c1
    refine .inr ⟨a, .inr ⟨u, B, b, d', c1, c2, hr d' b c5 hmk ?_ c3, c4, c5, c6⟩⟩
    rw [c6]
    rcases hsh with ⟨_, _, rfl⟩ | ⟨_, _, _, _, rfl⟩ <;> rfl

theorem Inv.exec (hC : COK P C) (I : Inv P C nt ops r0 H0 w0 done r tm H listed a w) {x : DI} (hx : x ∈ done) (hl : listed.getD x.1 false = false) (hd : ∀ d ∈ depsOf (opAt ops x.1), listed.getD d false = true)
    {Q : Exit → Act → World → Prop} {K : Act → World → Prop} (hk : ∀ a' w' r', Inv P C nt ops r0 H0 w0 done r' tm H (listed.setIfInBounds x.1 true) a' w' → K a' w') : wpOp P ops Q x.1 K a w := by
  obtain ⟨pre, hv, _⟩ := I.built.one x hx
  have hpend := I.pen x hx hl
  have hav : Avail ops done listed (opAt ops x.1) := by
    intro t ht y hy he
    rcases I.built.pair x hx y hy with rfl | ⟨pr, h1, h2⟩ | ⟨pr, h1, h2⟩
    · exact absurd ht (hv.own t he)
    · exact I.mok x hx _ I.clo hd y.1 (h1.reads t ht y h2 he)
    · obtain ⟨a1, a2⟩ := h1.anti t he x h2 ht
      cases hyl : listed.getD y.1 false with
      | true => rfl
      | false => rw [I.lou y hy hyl] at a1; cases a1
  have hops := opAt_get hv.lt
  unfold wpOp
  rw [hops]
  simp only
  rcases hpend.2.2 with ⟨hg, hn⟩ | ⟨hg, h⟩
  · rw [wanted_ok I.tms hav hg]
    simp only [Bool.false_eq_true, if_false]
    exact hk _ _ r (I.list hx hl hd I.sim I.ext (fun _ _ h => h) (fun d v h1 h2 => by rw [hn d h1] at h2; cases h2; simp only [VR, VRL]; exact ⟨[], rfl, rfl⟩) (fun y hy _ hyl => I.pen y hy hyl))
  · rw [wanted_ok I.tms hav hg]
    simp only [if_true]
    refine .inl ?_
    have hρ := seenEv_ok hC I.sim (ops := ops) (done := done) (listed := listed) (tm := tm) (a := a) I.tms
    have heq := seenEv_eq (C := C) (tm := tm) hav
    unfold Oper.wp
    rcases h with ⟨v, h1, h2⟩ | ⟨u, B, b, d, c1, c2, c3, c4, c5, c6⟩
    · rw [aval_congr heq] at h1
      obtain ⟨c, hrun, hcv⟩ := aval_ok hC I.sim hρ (opAt ops x.1) h1
      rw [hrun]
      exact hk _ _ r (I.list hx hl hd I.sim I.ext (fun _ _ h => h) (fun d v' e1 e2 => by rw [h2 d e1] at e2; cases e2; exact hcv) (fun y hy _ hyl => I.pen y hy hyl))
    · rw [mk_congr heq] at c1
      obtain ⟨n, xs, ys, el, fz, c, hrun, g1, g2, g3, g4⟩ := mk_exec (w := w) hC hρ (opAt ops x.1) c1
      rw [hrun]
      have s' := (I.sim.drew n).fill c2 c3 (xs ++ ys) el fz g3 ⟨xs, ys, rfl, g1⟩
      have hle : r.le (upd r b (w.heap.size, (xs ++ ys).length)) := fun k z h => by
        unfold upd
        rw [if_neg (fun e => by subst e; rw [c3] at h; cases h)]; exact h
      have e' : Ext r0 H0 w0 (upd r b (w.heap.size, (xs ++ ys).length)) H (World.alloc { w with drawn := n } (.cells (xs ++ ys).toArray el fz)) := by
        refine ⟨fun k hk => ?_, I.ext.next, ?_, fun k hk hn => ?_, fun k hk => ?_, I.ext.tape, I.ext.os, I.ext.output⟩
        · unfold upd; rw [if_neg (by omega)]; exact I.ext.ren k hk
        · have := I.ext.size; simp; omega
        · have hs := I.ext.size
          rw [alloc_old _ _ k (by show k < w.heap.size; omega)]
          exact I.ext.keep k hk hn
        · rintro ⟨b', B', e, q1, q2, q3⟩
          unfold upd at q3
          by_cases hbb : b' = b
          · rw [if_pos hbb] at q3; cases q3; have := I.ext.size; omega
          · rw [if_neg hbb] at q3; exact I.ext.wrs k hk ⟨b', B', e, q1, q2, q3⟩
      refine hk _ _ _ (I.list hx hl hd s' e' hle (fun d' v' e1 e2 => ?_) (fun y hy hne hyl => (I.pen y hy hyl).ren fun d' b' e1 e2 e3 e4 => ?_))
      · rw [c5] at e1; cases e1; rw [c6] at e2; cases e2
        exact g4 _ b (upd_self _ _ _)
      · unfold upd
        rw [if_neg ?_]
        · exact e4
        · rintro rfl
          obtain ⟨hmk, hsh⟩ := Go.Abs.mk_blk c1
          refine hne (I.inj y hy x hx hyl hl d' d b' e1 c5 e2 hmk e3 ?_)
          rw [c6]
          rcases hsh with ⟨_, _, rfl⟩ | ⟨_, _, _, _, rfl⟩ <;> rfl
end
end Go.Abs
