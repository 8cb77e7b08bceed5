/- The abstract machine: what a call left behind and nobody needs is forgotten. Conditions: none. -/
import Derived.Test.YtnladombaepkkaaGreatDoorAbs25
set_option linter.all false
namespace Go.Abs
open Go

mutual
/-- Values that lead to no memory. -/
def AV.flat : AV → Bool
  | .b _ => true
  | .i _ _ => true
  | .s _ => true
  | .np => true
  | .ns => true
  | .em => true
  | .nf => true
  | .ni => true
  | .nm => true
  | .raw => true
  | .ag l => AVs.flat l
  | .tu l => AVs.flat l
  | _ => false
def AVs.flat : List AV → Bool
  | [] => true
  | a :: l => AV.flat a && AVs.flat l
end
mutual
theorem VR.flat {r r' : Ren} : ∀ (a : AV) (v : Value), a.flat = true → VR r' a v → VR r a v
  | .b _, _, _, h | .i _ _, _, _, h | .s _, _, _, h | .np, _, _, h | .ns, _, _, h | .em, _, _, h | .nf, _, _, h | .ni, _, _, h | .nm, _, _, h | .raw, _, _, h => by simpa only [VR] using h
  | .ag l, v, k, h => by simp only [VR] at h ⊢; obtain ⟨x, h1, h2⟩ := h; exact ⟨x, h1, VRL.flat l x (by simpa only [AV.flat] using k) h2⟩
  | .tu l, v, k, h => by simp only [VR] at h ⊢; obtain ⟨x, h1, h2⟩ := h; exact ⟨x, h1, VRL.flat l x (by simpa only [AV.flat] using k) h2⟩
  | .p _ _, _, k, _ | .sl _ _ _ _, _, k, _ | .fn _ _ _, _, k, _ | .ifc _ _, _, k, _ | .mp _, _, k, _ => by cases k
theorem VRL.flat {r r' : Ren} : ∀ (l : List AV) (x : List Value), AVs.flat l = true → VRL r' l x → VRL r l x
  | [], _, _, h => by simpa only [VRL] using h
  | a :: l, x, k, h => by
    simp only [VRL] at h ⊢
    simp only [AVs.flat, Bool.and_eq_true] at k
    obtain ⟨c, y, h1, h2, h3⟩ := h
    exact ⟨c, y, h1, VR.flat a c k.1 h2, VRL.flat l y k.2 h3⟩
end

mutual
theorem VR.back {r r' : Ren} (hr : r.le r') : ∀ (a : AV) (v0 v : Value), VR r a v0 → VR r' a v → VR r a v
  | .b _, _, _, _, h | .i _ _, _, _, _, h | .s _, _, _, _, h | .np, _, _, _, h | .ns, _, _, _, h | .em, _, _, _, h | .nf, _, _, _, h | .ni, _, _, _, h | .nm, _, _, _, h | .raw, _, _, _, h => by simpa only [VR] using h
  | .p b o, _, _, h0, h => by
    simp only [VR] at h0 h ⊢
    obtain ⟨c0, e0, g0, _⟩ := h0
    obtain ⟨c, e, g1, g2⟩ := h
    rw [hr _ _ g0] at g1; cases g1
    exact ⟨c0, e0, g0, g2⟩
  | .mp b, _, _, h0, h => by
    simp only [VR] at h0 h ⊢
    obtain ⟨c0, e0, g0, _⟩ := h0
    obtain ⟨c, e, g1, g2⟩ := h
    rw [hr _ _ g0] at g1; cases g1
    exact ⟨c0, e0, g0, g2⟩
  | .sl b o n c, _, _, h0, h => by
    simp only [VR] at h0 h ⊢
    obtain ⟨c0, e0, _, g0, _⟩ := h0
    obtain ⟨c, e, k, g1, g2⟩ := h
    rw [hr _ _ g0] at g1; cases g1
    exact ⟨c0, e0, k, g0, g2⟩
  | .fn f x y, _, _, h0, h => by
    simp only [VR] at h0 h ⊢
    obtain ⟨x0, y0, _, g1, g2⟩ := h0
    obtain ⟨x1, y1, q0, q1, q2⟩ := h
    exact ⟨x1, y1, q0, VRL.back hr x x0 x1 g1 q1, VRL.back hr y y0 y1 g2 q2⟩
  | .ag l, _, _, h0, h => by
    simp only [VR] at h0 h ⊢
    obtain ⟨x0, _, g1⟩ := h0
    obtain ⟨x1, q0, q1⟩ := h
    exact ⟨x1, q0, VRL.back hr l x0 x1 g1 q1⟩
  | .tu l, _, _, h0, h => by
    simp only [VR] at h0 h ⊢
    obtain ⟨x0, _, g1⟩ := h0
    obtain ⟨x1, q0, q1⟩ := h
    exact ⟨x1, q0, VRL.back hr l x0 x1 g1 q1⟩
  | .ifc t u, _, _, h0, h => by
    simp only [VR] at h0 h ⊢
    obtain ⟨x0, _, g1⟩ := h0
    obtain ⟨x1, q0, q1⟩ := h
    exact ⟨x1, q0, VR.back hr u x0 x1 g1 q1⟩
theorem VRL.back {r r' : Ren} (hr : r.le r') : ∀ (l : List AV) (x0 x : List Value), VRL r l x0 → VRL r' l x → VRL r l x
  | [], _, _, _, h => by simpa only [VRL] using h
  | a :: l, x0, x, h0, h => by
    simp only [VRL] at h0 h ⊢
    obtain ⟨c0, y0, _, g1, g2⟩ := h0
    obtain ⟨c, y, h1, h2, h3⟩ := h
    exact ⟨c, y, h1, VR.back hr a c0 c g1 h2, VRL.back hr l y0 y g2 h3⟩
end

/-- The heap as it was before, where all that stood there stands there still. -/
theorem Sim.restore {P : Program} {r r' : Ren} {H H' : Heap} {w w' : World} (s : Sim P r H w) (s' : Sim P r' H' w') (e : Ext r H w r' H' w') (hs : H.Sub H') : Sim P r H w' ∧ Ext r H w r H w' := by
  have hle := s.le_of_ext e
  refine ⟨⟨fun b B c ex hb hr => ?_, s.inj, fun b c ex h => ?_, s.glb⟩, ⟨fun _ _ => rfl, Nat.le_refl _, e.size, e.keep, fun _ _ h => h, e.tape, e.os, e.output⟩⟩
  · obtain ⟨cells0, el0, fz0, a1, a2, a3, x0, y0, a4, a5⟩ := s.blk b B c ex hb hr
    obtain ⟨cells, el, fz, b1, b2, b3, x, y, b4, b5⟩ := s'.blk b B c ex (hs b B hb) (hle _ _ hr)
    exact ⟨cells, el, fz, b1, b2, b3, x, y, b4, VRL.back hle _ x0 x a5 b5⟩
  · have := s.dom b c ex h
    exact ⟨this.1, Nat.lt_of_lt_of_le this.2 e.size⟩

/-- A call that changes nothing that was there, and answers no memory, leaves the heap as it was. -/
theorem SCalls.drop {P : Program} {f : FuncId} {args : List AV} {H : Heap} {Q : AV → Prop} (h : SCalls P f args H (fun v H' => Q v ∧ v.flat = true ∧ H.Sub H')) : SCalls P f args H (fun v H' => Q v ∧ H' = H) := by
  intro r w cargs s hv
  rcases h r w cargs s hv with ⟨h1, h2⟩ | ⟨c, w', v, H', r', h1, ⟨q1, q2, q3⟩, h3, s', e'⟩
  · refine .inl ⟨h1, h2.mono ?_⟩
    rintro e w' ⟨v, H', r', c, ⟨q1, q2, q3⟩, g1, g2, s', e'⟩
    obtain ⟨s2, e2⟩ := s.restore s' e' q3
    exact ⟨v, H, r, c, ⟨q1, rfl⟩, g1, VR.flat v c q2 g2, s2, e2⟩
  · obtain ⟨s2, e2⟩ := s.restore s' e' q3
    exact .inr ⟨c, w', v, H, r, h1, ⟨q1, rfl⟩, VR.flat v c q2 h3, s2, e2⟩

/-- A function without a body. -/
theorem SCalls.of_extern {P : Program} {f : FuncId} {fn : Func} {e : Array Value → Sem Value} (hf : P.funcs[f]? = some fn) (hname : (fn.name == "runtime.NumGoroutine") = false)
    (hb : fn.body.isNone = true) (hn : Extern.findNext fn = none) (he : Extern.find fn = some e) {args : List AV} {v : AV} (hv : v.flat = true) {H : Heap}
    (hrun : ∀ (r : Ren) (w : World) (x : List Value), VRL r args x → ∃ c, (e x.toArray).run P w = .ok c w ∧ VR r v c) : SCalls P f args H (fun u K => u = v ∧ K = H) := by
  intro r w cargs s hx
  obtain ⟨c, h1, h2⟩ := hrun r w cargs hx
  exact .inr ⟨c, w, v, H, r, by rw [run_callFunc_extern hf hname hb hn he, h1]; rfl, ⟨rfl, rfl⟩, h2, s, Ext.refl _ _ _⟩
end Go.Abs
