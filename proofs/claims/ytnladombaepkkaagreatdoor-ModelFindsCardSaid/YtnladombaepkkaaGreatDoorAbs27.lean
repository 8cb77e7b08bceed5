/- The abstract machine: a call that reads only blocks that nobody may write, in a larger heap. Conditions: none. -/
import Derived.Test.YtnladombaepkkaaGreatDoorAbs26
set_option linter.all false
namespace Go.Abs
open Go
theorem SCalls.frame {P : Program} {f : FuncId} {args : List AV} {H0 H : Heap} {Q : AV → Prop} (hsub : H0.Sub H) (hn : H0.next ≤ H.next) (hg : P.globals.size ≤ H0.next)
    (hro : ∀ b B, H0.get b = some B → B.wr = false ∧ AVs.flat B.cells = true) (ha : AVs.flat args = true) (h : SCalls P f args H0 (fun v _ => Q v ∧ v.flat = true)) : SCalls P f args H (fun v K => Q v ∧ K = H) := by
  intro r w cargs s hv
  let r0 : Ren := fun b => if b < H0.next then r b else none
  have hle : ∀ b x, r0 b = some x → b < H0.next ∧ r b = some x := by
    intro b x hb
    by_cases hlt : b < H0.next
    · exact ⟨hlt, by simpa [r0, hlt] using hb⟩
    · simp [r0, hlt] at hb
  have s0 : Sim P r0 H0 w := by
    refine ⟨fun b B c e hb hr => ?_, fun b B b' B' c e e' hb hw _ _ _ => ?_, fun b c e hr => ?_, fun g hgl => ?_⟩
    · obtain ⟨cells, el, fz, a1, a2, a3, x, y, a4, a5⟩ := s.blk b B c e (hsub b B hb) (hle _ _ hr).2
      refine ⟨cells, el, fz, a1, a2, a3, x, y, a4, ?_⟩
      exact VRL.flat _ _ (hro b B hb).2 a5
    · rw [(hro b B hb).1] at hw; cases hw
    · exact ⟨(hle _ _ hr).1, (s.dom b c e (hle _ _ hr).2).2⟩
    · obtain ⟨e, he⟩ := s.glb g hgl
      exact ⟨e, by simp only [r0]; rw [if_pos (Nat.lt_of_lt_of_le hgl hg)]; exact he⟩
  have fin : ∀ {v : AV} {c : Value} {K : Heap} {r' : Ren} {w' : World}, v.flat = true → VR r' v c → Ext r0 H0 w r' K w' → VR r v c ∧ Sim P r H w' ∧ Ext r H w r H w' := by
    intro v c K r' w' hf hvc e
    have keep : ∀ c, c < w.heap.size → w'.heap[c]? = w.heap[c]? := fun c hc => e.keep c hc fun ⟨b, B, _, hb, hw, _⟩ => by rw [(hro b B hb).1] at hw; cases hw
    refine ⟨VR.flat v c hf hvc, ⟨fun b B c ex hb hr => ?_, s.inj, fun b c ex hr => ?_, s.glb⟩, ⟨fun _ _ => rfl, Nat.le_refl _, e.size, fun c hc _ => keep c hc, fun _ _ h => h, e.tape, e.os, e.output⟩⟩
    · exact (s.blk b B c ex hb hr).mono (fun _ _ h => h) (keep c (s.dom b c ex hr).2)
    · exact ⟨(s.dom b c ex hr).1, Nat.lt_of_lt_of_le (s.dom b c ex hr).2 e.size⟩
  rcases h r0 w cargs s0 (VRL.flat args cargs ha hv) with ⟨h1, h2⟩ | ⟨c, w', v, H', r', h1, ⟨q1, q2⟩, h3, s', e'⟩
  · refine .inl ⟨h1, h2.mono ?_⟩
    rintro ex w' ⟨v, H', r', c, ⟨q1, q2⟩, g1, g2, s', e'⟩
    obtain ⟨a, b, d⟩ := fin q2 g2 e'
    exact ⟨v, H, r, c, ⟨q1, rfl⟩, g1, a, b, d⟩
  · obtain ⟨a, b, d⟩ := fin q2 h3 e'
    exact .inr ⟨c, w', v, H, r, h1, ⟨q1, rfl⟩, a, b, d⟩
end Go.Abs
