/- The world of a call, as the abstract machine sees it: tables and a plan's slices. Conditions: none. -/
import Derived.Test.YtnladombaepkkaaGreatDoorPlan
import Derived.Test.YtnladombaepkkaaGreatDoorSizes
set_option linter.all false
namespace Go.Proofs.YtnladombaepkkaaGreatDoor
open Go Go.Abs Go.ChangeShapes Go.WideShapes
/-- A slice of the arguments: its abstract value a, its block b of the abstract heap. -/
structure ArgR (w : World) (sz : Nat) (els : List (List AV)) (v : Value) (b : Nat) (a : AV) (o : Option (Nat × Nat)) (x : Option Blk) : Prop where
  val : ∀ r : Ren, r b = o → VR r a v
  slr : ∀ H : Heap, H.get b = x → SlR H sz els a
  blk : ∀ B c e, x = some B → o = some (c, e) → B.wr = false ∧ ∀ r, BR r B c e w
  ro : ∀ B, x = some B → B.wr = false
  dom : ∀ c e, o = some (c, e) → c < w.heap.size
theorem argR_of {α : Type} {w : World} {sz : Nat} {f : α → List AV} (hf : ∀ p, (f p).length = sz) {ps : List α} {v : Value} (b : Nat)
    (h : (ps = [] ∧ (v = .slice none 0 0 ∨ ∃ a k, v = .slice (some a) 0 k)) ∨
      ∃ (c o cap : Nat) (pre : List AV), v = .slice (some ⟨c, o, none⟩) ps.length cap ∧ pre.length = o ∧ c < w.heap.size ∧ ∀ r, BR r ⟨pre ++ (ps.map f).flatten, false⟩ c 0 w) :
    ∃ a o x, ArgR w sz (ps.map f) v b a o x := by
  rcases h with ⟨rfl, rfl | ⟨a, k, rfl⟩⟩ | ⟨c, o, cap, pre, rfl, h1, h2, h3⟩
  · exact ⟨.ns, none, none, ⟨fun _ _ => by simp [VR], fun _ _ => ⟨by simp, .inl ⟨rfl, .inl rfl⟩⟩, fun _ _ _ h => by (cases h), fun _ h => by (cases h), fun _ _ h => by (cases h)⟩⟩
  · exact ⟨.em, none, none, ⟨fun _ _ => by simp [VR], fun _ _ => ⟨by simp, .inl ⟨rfl, .inr rfl⟩⟩, fun _ _ _ h => by (cases h), fun _ h => by (cases h), fun _ _ h => by (cases h)⟩⟩
  · refine ⟨.sl b o ps.length (.kn cap), some (c, 0), some ⟨pre ++ (ps.map f).flatten, false⟩, ⟨fun r hr => ?_, fun H hH => ?_, fun B c' e hB he => ?_, fun B hB => ?_, fun c' e he => ?_⟩⟩
    · simp only [VR]; exact ⟨c, 0, cap, hr, rfl, rfl⟩
    · have hl := flat_at hf ps
      refine ⟨by simp [hf], .inr ⟨b, o, .kn cap, _, by rw [List.length_map], hH, ?_, ?_⟩⟩
      · rw [List.length_map, ← h1, List.drop_left, ← hl, List.take_length]
      · rw [List.length_map]; simp only [List.length_append]; rw [hl, h1]; omega
    · cases hB; cases he; exact ⟨rfl, h3⟩
    · cases hB; rfl
    · cases he; exact h2
theorem vrl_ints : ∀ zs : List Int, VRL noRen (zs.map (AV.i .i64)) (zs.map fun z => Value.int .i64 z)
  | [] => by simp [VRL]
  | z :: zs => by simp only [List.map_cons, VRL]; exact ⟨_, _, rfl, by simp [VR], vrl_ints zs⟩
/-- The tables, as the row lists them. -/
theorem tab_of {l : List (String × DataW Unit)} {W : World} (hl : laidMetH Tryz.prog l W) {nm : String} {g t n : Nat} {zs : List Int}
    (hf : (l.filter fun x => x.1 == nm) = [(nm, Lib.tabData .i64 zs)]) (hg : Tryz.prog.globalNamed nm = some g) (hty : (Tryz.prog.globals[g]?).map (·.type) = some t) (ht : Tryz.prog.underlying t = some (.array n 3)) (hct : Tryz.prog.cellsOf t = n)
    (hpos : 0 < zs.length) : ∀ r, BR r (ints zs) g 0 W := by
  have h1 := hl.filter fun x => x.1 == nm
  rw [hf] at h1
  have h2 : laidMet Tryz.prog [(nm, Lib.tabData .i64 zs)] W := h1
  have h3 := Lib.tabIs_of_head hg hty ht u3 c3 hct h2
  obtain ⟨pre, p1, _, p3⟩ := br_of_cells (w := W) (c := g) (o := 0) (l := zs.map fun z => Value.int .i64 z) (m := zs.map (AV.i .i64)) (by simpa using hpos) (fun i hi => by
    rw [Nat.zero_add, h3.cell hg i (by simpa using hi)]
    simp at hi ⊢
    simp [hi]) (by
      exact vrl_ints zs)
  have : pre = [] := List.eq_nil_of_length_eq_zero p1
  subst this
  exact p3
/-- Six tables of the program. -/
structure Tabs (W : World) : Prop where
  g0 : ∀ r, BR r (ints [2, 2, 4, 0, 0, 0, 4, 2, 2, 2, 2, 2, 2]) 0 0 W
  g1 : ∀ r, BR r (ints [4, 4, 0, 0, 0, 0, 4, 4, 0, 0]) 1 0 W
  g2 : ∀ r, BR r (ints [4, 4, 0, 0, 0, 0, 0, 0]) 2 0 W
  g3 : ∀ r, BR r (ints [4, 0, 0, 0, 0, 0, 4, 0]) 3 0 W
  g4 : ∀ r, BR r (ints [4, 1, 1, 2, 0, 0]) 4 0 W
  g5 : ∀ r, BR r (ints [4, 0, 0, 1, 1, 2]) 5 0 W
theorem sim_of {W : World} (hT : Tabs W) (h8 : 8 < W.heap.size) {z1 z2 z3 z4 : Nat} {e1 e2 e3 e4 : List (List AV)} {s1 s2 s3 s4 : Value} {a1 a2 a3 a4 : AV} {o1 o2 o3 o4 : Option (Nat × Nat)} {x1 x2 x3 x4 : Option Blk}
    (A1 : ArgR W z1 e1 s1 9 a1 o1 x1) (A2 : ArgR W z2 e2 s2 10 a2 o2 x2) (A3 : ArgR W z3 e3 s3 11 a3 o3 x3) (A4 : ArgR W z4 e4 s4 12 a4 o4 x4) :
    ∃ (r : Ren) (H : Heap), Sim Tryz.prog r H W ∧ H0.Sub H ∧ 9 ≤ H.next ∧ (∀ b B, H.get b = some B → B.wr = false) ∧
      VR r a1 s1 ∧ VR r a2 s2 ∧ VR r a3 s3 ∧ VR r a4 s4 ∧ SlR H z1 e1 a1 ∧ SlR H z2 e2 a2 ∧ SlR H z3 e3 a3 ∧ SlR H z4 e4 a4 := by
  let r : Ren := fun b => if b < 9 then some (b, 0) else if b = 9 then o1 else if b = 10 then o2 else if b = 11 then o3 else if b = 12 then o4 else none
  let H : Heap := H0.grow [x1, x2, x3, x4]
  have hn : H.next = 13 := Heap.next_grow _ _
  have q1 : H.get 9 = x1 := Heap.get_grow [x1, x2, x3, x4] H0 0
  have q2 : H.get 10 = x2 := Heap.get_grow [x1, x2, x3, x4] H0 1
  have q3 : H.get 11 = x3 := Heap.get_grow [x1, x2, x3, x4] H0 2
  have q4 : H.get 12 = x4 := Heap.get_grow [x1, x2, x3, x4] H0 3
  have hold : ∀ b, b < 9 → H.get b = H0.get b := fun b hb => Heap.get_grow_old _ _ hb
  have cases13 : ∀ {b : Nat}, b < 13 → b = 0 ∨ b = 1 ∨ b = 2 ∨ b = 3 ∨ b = 4 ∨ b = 5 ∨ b = 6 ∨ b = 7 ∨ b = 8 ∨ b = 9 ∨ b = 10 ∨ b = 11 ∨ b = 12 := by omega
  have hro : ∀ b B, H.get b = some B → B.wr = false := by
    intro b B hb
    have hb' := Heap.lt_of_get hb
    rw [hn] at hb'
    rcases cases13 hb' with rfl | rfl | rfl | rfl | rfl | rfl | rfl | rfl | rfl | rfl | rfl | rfl | rfl
    all_goals first
      | exact (H0_ro _ B ((hold _ (by omega)).symm.trans hb)).1
      | exact A1.ro B (q1.symm.trans hb)
      | exact A2.ro B (q2.symm.trans hb)
      | exact A3.ro B (q3.symm.trans hb)
      | exact A4.ro B (q4.symm.trans hb)
  refine ⟨r, H, ⟨?_, ?_, ?_, ?_⟩, Heap.sub_grow _ _, by omega, hro, A1.val r rfl, A2.val r rfl, A3.val r rfl, A4.val r rfl, A1.slr H q1, A2.slr H q2, A3.slr H q3, A4.slr H q4⟩
  · intro b B c e hb hr
    have hb' := Heap.lt_of_get hb
    rw [hn] at hb'
    rcases cases13 hb' with rfl | rfl | rfl | rfl | rfl | rfl | rfl | rfl | rfl | rfl | rfl | rfl | rfl
    · rw [hold _ (by omega)] at hb; cases hb; cases hr; exact hT.g0 r
    · rw [hold _ (by omega)] at hb; cases hb; cases hr; exact hT.g1 r
    · rw [hold _ (by omega)] at hb; cases hb; cases hr; exact hT.g2 r
    · rw [hold _ (by omega)] at hb; cases hb; cases hr; exact hT.g3 r
    · rw [hold _ (by omega)] at hb; cases hb; cases hr; exact hT.g4 r
    · rw [hold _ (by omega)] at hb; cases hb; cases hr; exact hT.g5 r
    · rw [hold _ (by omega)] at hb; cases hb
    · rw [hold _ (by omega)] at hb; cases hb
    · rw [hold _ (by omega)] at hb; cases hb
    · exact (A1.blk B c e (q1.symm.trans hb) hr).2 r
    · exact (A2.blk B c e (q2.symm.trans hb) hr).2 r
    · exact (A3.blk B c e (q3.symm.trans hb) hr).2 r
    · exact (A4.blk B c e (q4.symm.trans hb) hr).2 r
  · intro b B b' B' c e e' hb hw
    rw [hro b B hb] at hw; cases hw
  · intro b c e hr
    simp only [r] at hr
    rw [hn]
    split at hr
    · cases hr; omega
    · split at hr
      · exact ⟨by omega, A1.dom c e hr⟩
      · split at hr
        · exact ⟨by omega, A2.dom c e hr⟩
        · split at hr
          · exact ⟨by omega, A3.dom c e hr⟩
          · split at hr
            · exact ⟨by omega, A4.dom c e hr⟩
            · cases hr
  · intro g hg
    have : g < 9 := Nat.lt_of_lt_of_eq hg (by kernel_rfl)
    exact ⟨0, by simp only [r]; rw [if_pos this]⟩
/-- What an answered call leaves: below the old heap's end nothing has turned. -/
theorem below_of {f : FuncId} {args : List AV} {cargs : List Value} {r : Ren} {H : Heap} {W : World} {Q : AV → Prop} (s : Sim Tryz.prog r H W) (hro : ∀ b B, H.get b = some B → B.wr = false) (hv : VRL r args cargs)
    (hen : ∀ c w', (callFunc f cargs.toArray).run Tryz.prog W ≠ .ok (.value c) w') (h : SCalls Tryz.prog f args H (fun v _ => Q v)) :
    Calls Tryz.prog f cargs.toArray W fun e w' => (∃ v c r', Q v ∧ e = .returned c ∧ VR r' v c) ∧ RowKit.Below W.heap.size W w' := by
  rcases h r W cargs s hv with ⟨_, h2⟩ | ⟨c, w', v, H', r', h1, _⟩
  · refine h2.mono ?_
    rintro e w' ⟨v, H', r', c, q, h3, h4, _, ext⟩
    exact ⟨⟨v, c, r', q, h3, h4⟩, ext.os, ext.tape, ext.output, ext.size, fun k hk => ext.keep k hk fun ⟨b, B, _, hb, hw, _⟩ => by rw [hro b B hb] at hw; cases hw⟩
  · exact absurd h1 (hen c w')
end Go.Proofs.YtnladombaepkkaaGreatDoor
