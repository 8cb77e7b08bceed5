/- The abstract machine's values, its heap, and how they stand for the model's: definitions and first lemmas. Conditions: none. -/
import Derived.Orders
import Derived.Laws.Rows
import Derived.Laws.Concat
import Derived.Laws.AppendOwn
import Derived.WalkKit
set_option linter.all false
namespace Go.Abs
open Go

/-- Abstract values. Blocks are numbered by the abstract heap. -/
inductive Cap where
  | kn (n : Nat)
  | op (es : Nat)

inductive AV where
  | b (x : Bool)
  | i (k : IntKind) (n : Int)
  | s (l : List UInt8)
  | p (b o : Nat)
  | np
  | sl (b o len : Nat) (cap : Cap)
  | ns
  | em
  | fn (f : Fn) (fi ca : List AV)
  | nf
  | ag (l : List AV)
  | tu (l : List AV)
  | ni
  | ifc (t : TypeId) (v : AV)
  | mp (b : Nat)
  | nm
  | raw

abbrev Ren := Nat → Option (Nat × Nat)

mutual
def VR (r : Ren) : AV → Value → Prop
  | .b x, v => v = .bool x
  | .i k n, v => v = .int k n
  | .s l, v => v = .string ⟨l.toArray⟩
  | .p b o, v => ∃ c e, r b = some (c, e) ∧ v = .pointer (some ⟨c, o, none⟩)
  | .np, v => v = .pointer none
  | .sl b o len cap, v => ∃ c e k, r b = some (c, e) ∧ v = .slice (some ⟨c, o, none⟩) len k ∧
      (match cap with | .kn n => k = n | .op es => len ≤ k ∧ o + k * es ≤ e)
  | .ns, v => v = .slice none 0 0
  | .em, v => ∃ a k, v = .slice (some a) 0 k
  | .fn f fi ca, v => ∃ x y : List Value, v = .func f x.toArray y.toArray ∧ VRL r fi x ∧ VRL r ca y
  | .nf, v => v = .nilFunc
  | .ag l, v => ∃ x : List Value, v = .agg x.toArray ∧ VRL r l x
  | .tu l, v => ∃ x : List Value, v = .tuple x.toArray ∧ VRL r l x
  | .ni, v => v = .nilIface
  | .ifc t u, v => ∃ x, v = .iface t x ∧ VR r u x
  | .mp b, v => ∃ c e, r b = some (c, e) ∧ v = .map (some c)
  | .nm, v => v = .map none
  | .raw, v => ∀ x, v ≠ .agg x
def VRL (r : Ren) : List AV → List Value → Prop
  | [], x => x = []
  | a :: l, x => ∃ c y, x = c :: y ∧ VR r a c ∧ VRL r l y
end

/-- Tries: numbers to things. -/
inductive Tr (α : Type) where
  | l
  | n (a : Tr α) (v : Option α) (b : Tr α)

namespace Tr
variable {α : Type}
def get : Tr α → Nat → Option α
  | .l, _ => none
  | .n a v b, k => bif k == 0 then v else bif k % 2 == 1 then get a (k / 2) else get b (k / 2 - 1)
def one : Nat → Nat → Option α → Tr α
  | 0, _, _ => .l
  | f + 1, k, x => bif k == 0 then .n .l x .l else bif k % 2 == 1 then .n (one f (k / 2) x) none .l else .n .l none (one f (k / 2 - 1) x)
def put : Tr α → Nat → Option α → Tr α
  | .l, k, x => one (k + 1) k x
  | .n a v b, k, x => bif k == 0 then .n a x b else bif k % 2 == 1 then .n (put a (k / 2) x) v b else .n a v (put b (k / 2 - 1) x)

theorem get_node (a b : Tr α) (v : Option α) (k : Nat) : (Tr.n a v b).get k = if k = 0 then v else if k % 2 = 1 then a.get (k / 2) else b.get (k / 2 - 1) := by
  simp only [get, Bool.cond_eq_ite, beq_iff_eq]
theorem one_succ (f k : Nat) (x : Option α) : one (f + 1) k x = if k = 0 then .n .l x .l else if k % 2 = 1 then .n (one f (k / 2) x) none .l else .n .l none (one f (k / 2 - 1) x) := by
  simp only [one, Bool.cond_eq_ite, beq_iff_eq]
theorem put_node (a b : Tr α) (v : Option α) (k : Nat) (x : Option α) : (Tr.n a v b).put k x = if k = 0 then .n a x b else if k % 2 = 1 then .n (a.put (k / 2) x) v b else .n a v (b.put (k / 2 - 1) x) := by
  simp only [put, Bool.cond_eq_ite, beq_iff_eq]
theorem get_leaf (k : Nat) : (Tr.l : Tr α).get k = none := rfl
theorem get_one_self : ∀ (f k : Nat) (x : Option α), k < f → (one f k x).get k = x
  | 0, _, _, h => by omega
  | f + 1, k, x, h => by
    rw [one_succ]
    by_cases h0 : k = 0
    · rw [if_pos h0, get_node, if_pos h0]
    · rw [if_neg h0]
      by_cases h1 : k % 2 = 1
      · rw [if_pos h1, get_node, if_neg h0, if_pos h1, get_one_self f _ x (by omega)]
      · rw [if_neg h1, get_node, if_neg h0, if_neg h1, get_one_self f _ x (by omega)]
theorem get_one_ne : ∀ (f k j : Nat) (x : Option α), k ≠ j → (one f k x).get j = none
  | 0, _, _, _, _ => rfl
  | f + 1, k, j, x, h => by
    rw [one_succ]
    (repeat' split) <;> rw [get_node] <;> (repeat' split) <;> first | rfl | (exfalso; omega) | exact get_one_ne f _ _ x (by omega)
theorem get_put_self : ∀ (t : Tr α) (k : Nat) (x : Option α), (t.put k x).get k = x
  | .l, k, x => get_one_self _ k x (by omega)
  | .n a v b, k, x => by
    rw [put_node]
    by_cases h0 : k = 0
    · rw [if_pos h0, get_node, if_pos h0]
    · rw [if_neg h0]
      by_cases h1 : k % 2 = 1
      · rw [if_pos h1, get_node, if_neg h0, if_pos h1, get_put_self a]
      · rw [if_neg h1, get_node, if_neg h0, if_neg h1, get_put_self b]
theorem get_put_ne : ∀ (t : Tr α) (k j : Nat) (x : Option α), k ≠ j → (t.put k x).get j = t.get j
  | .l, k, j, x, h => get_one_ne _ k j x h
  | .n a v b, k, j, x, h => by
    rw [put_node]
    (repeat' split) <;> rw [get_node, get_node] <;> (repeat' split) <;> first | rfl | (exfalso; omega) | exact get_put_ne a _ _ x (by omega) | exact get_put_ne b _ _ x (by omega)
theorem get_put (t : Tr α) (k j : Nat) (x : Option α) : (t.put k x).get j = if k = j then x else t.get j := by
  by_cases h : k = j
  · subst h; rw [if_pos rfl, get_put_self]
  · rw [if_neg h, get_put_ne t k j x h]
end Tr

structure Blk where
  cells : List AV
  wr : Bool

structure Heap where
  next : Nat
  t : Tr Blk

namespace Heap
def get (h : Heap) (b : Nat) : Option Blk := bif Nat.blt b h.next then h.t.get b else none
def set (h : Heap) (b : Nat) (x : Blk) : Heap := ⟨h.next, h.t.put b (some x)⟩
def alloc (h : Heap) (x : Blk) : Heap := ⟨h.next + 1, h.t.put h.next (some x)⟩
/-- One block is given up, and a new one begins. -/
def turn (h : Heap) (b : Nat) (x : Blk) : Heap := ⟨h.next + 1, (h.t.put b none).put h.next (some x)⟩
@[simp] theorem next_set (h : Heap) (b : Nat) (x : Blk) : (h.set b x).next = h.next := rfl
@[simp] theorem next_alloc (h : Heap) (x : Blk) : (h.alloc x).next = h.next + 1 := rfl
@[simp] theorem next_turn (h : Heap) (b : Nat) (x : Blk) : (h.turn b x).next = h.next + 1 := rfl
theorem get_if (h : Heap) (b : Nat) : h.get b = if b < h.next then h.t.get b else none := by
  simp only [get, Bool.cond_eq_ite]
  by_cases hb : b < h.next
  · rw [if_pos hb, if_pos (by simpa [Nat.blt_eq] using hb)]
  · rw [if_neg hb, if_neg (by simpa [Nat.blt_eq] using hb)]
theorem lt_of_get {h : Heap} {b : Nat} {x : Blk} (hb : h.get b = some x) : b < h.next := by
  rw [get_if] at hb
  split at hb
  · assumption
  · cases hb
theorem get_set {h : Heap} {b : Nat} {y : Blk} (hb : h.get b = some y) (j : Nat) (x : Blk) : (h.set b x).get j = if b = j then some x else h.get j := by
  have := lt_of_get hb
  simp only [get_if, set, Tr.get_put]
  by_cases hj : b = j
  · subst hj; simp [this]
  · simp [hj]
theorem get_alloc (h : Heap) (j : Nat) (x : Blk) : (h.alloc x).get j = if h.next = j then some x else h.get j := by
  simp only [get_if, alloc, Tr.get_put]
  by_cases hj : h.next = j
  · subst hj; simp
  · simp only [hj, if_false]
    by_cases h1 : j < h.next
    · rw [if_pos (by omega), if_pos h1]
    · rw [if_neg (by omega), if_neg h1]
theorem get_turn (h : Heap) (b j : Nat) (x : Blk) : (h.turn b x).get j = if h.next = j then some x else if b = j then none else h.get j := by
  simp only [get_if, turn, Tr.get_put]
  by_cases hj : h.next = j
  · subst hj; simp
  · simp only [hj, if_false]
    by_cases h1 : j < h.next
    · rw [if_pos (by omega), if_pos h1]
    · rw [if_neg (by omega), if_neg h1]; simp
end Heap

/-- How a block's cells stand for a block of the world. -/
def BR (r : Ren) (B : Blk) (c e : Nat) (w : World) : Prop :=
  ∃ (cells : List Value) (el : TypeId) (fz : Nat × Nat), w.heap[c]? = some (.cells cells.toArray el fz) ∧ e ≤ cells.length ∧
    ((fz.1 ≤ fz.2 ∧ ∀ j, j < cells.length → (fz.1 ≤ j && j < fz.2) = false) ∨ B.wr = false) ∧ (∃ x y, cells = x ++ y ∧ VRL r B.cells x)

structure Sim (P : Program) (r : Ren) (H : Heap) (w : World) : Prop where
  blk : ∀ b B c e, H.get b = some B → r b = some (c, e) → BR r B c e w
  inj : ∀ b B b' B' c e e', H.get b = some B → B.wr = true → H.get b' = some B' → r b = some (c, e) → r b' = some (c, e') → b = b'
  dom : ∀ b c e, r b = some (c, e) → b < H.next ∧ c < w.heap.size
  glb : ∀ g, g < P.globals.size → ∃ e, r g = some (g, e)

/-- A block of the world that may be written. -/
def Wr (r : Ren) (H : Heap) (c : Nat) : Prop := ∃ b B e, H.get b = some B ∧ B.wr = true ∧ r b = some (c, e)

structure Ext (r : Ren) (H : Heap) (w : World) (r' : Ren) (H' : Heap) (w' : World) : Prop where
  ren : ∀ b, b < H.next → r' b = r b
  next : H.next ≤ H'.next
  size : w.heap.size ≤ w'.heap.size
  keep : ∀ c, c < w.heap.size → ¬ Wr r H c → w'.heap[c]? = w.heap[c]?
  wrs : ∀ c, c < w.heap.size → Wr r' H' c → Wr r H c
  tape : w'.tape = w.tape
  os : w'.os = w.os
  output : w'.output = w.output

/-- What stands in one renaming stands in a later one. -/
def Ren.le (r r' : Ren) : Prop := ∀ b x, r b = some x → r' b = some x

mutual
theorem VR.mono {r r' : Ren} (h : r.le r') : ∀ (a : AV) (v : Value), VR r a v → VR r' a v
  | .b _, _, k | .i _ _, _, k | .s _, _, k | .np, _, k | .ns, _, k | .em, _, k | .nf, _, k | .ni, _, k | .nm, _, k | .raw, _, k => by simpa only [VR] using k
  | .p b o, v, k => by simp only [VR] at k ⊢; obtain ⟨c, e, h1, h2⟩ := k; exact ⟨c, e, h _ _ h1, h2⟩
  | .mp b, v, k => by simp only [VR] at k ⊢; obtain ⟨c, e, h1, h2⟩ := k; exact ⟨c, e, h _ _ h1, h2⟩
  | .sl b o len cap, v, k => by simp only [VR] at k ⊢; obtain ⟨c, e, q, h1, h2, h3⟩ := k; exact ⟨c, e, q, h _ _ h1, h2, h3⟩
  | .fn f fi ca, v, k => by
    simp only [VR] at k ⊢; obtain ⟨x, y, h1, h2, h3⟩ := k; exact ⟨x, y, h1, VRL.mono h fi x h2, VRL.mono h ca y h3⟩
  | .ag l, v, k => by simp only [VR] at k ⊢; obtain ⟨x, h1, h2⟩ := k; exact ⟨x, h1, VRL.mono h l x h2⟩
  | .tu l, v, k => by simp only [VR] at k ⊢; obtain ⟨x, h1, h2⟩ := k; exact ⟨x, h1, VRL.mono h l x h2⟩
  | .ifc t u, v, k => by simp only [VR] at k ⊢; obtain ⟨x, h1, h2⟩ := k; exact ⟨x, h1, VR.mono h u x h2⟩
theorem VRL.mono {r r' : Ren} (h : r.le r') : ∀ (l : List AV) (x : List Value), VRL r l x → VRL r' l x
  | [], x, k => by simpa only [VRL] using k
  | a :: l, x, k => by
    simp only [VRL] at k ⊢; obtain ⟨c, y, h1, h2, h3⟩ := k; exact ⟨c, y, h1, VR.mono h a c h2, VRL.mono h l y h3⟩
end

theorem VRL.length {r : Ren} : ∀ {l : List AV} {x : List Value}, VRL r l x → x.length = l.length
  | [], x, h => by simp only [VRL] at h; simp [h]
  | a :: l, x, h => by simp only [VRL] at h; obtain ⟨c, y, rfl, _, h3⟩ := h; simp [VRL.length h3]
theorem VRL.get {r : Ren} : ∀ {l : List AV} {x : List Value}, VRL r l x → ∀ {j : Nat} {a : AV}, l[j]? = some a → ∃ c, x[j]? = some c ∧ VR r a c
  | [], x, h, j, a, hj => by simp at hj
  | b :: l, x, h, j, a, hj => by
    simp only [VRL] at h; obtain ⟨c, y, rfl, h2, h3⟩ := h
    cases j with
    | zero => simp at hj; subst hj; exact ⟨c, by simp, h2⟩
    | succ j => simp at hj; obtain ⟨d, h4, h5⟩ := VRL.get h3 hj; exact ⟨d, by simpa using h4, h5⟩
theorem VRL.append {r : Ren} : ∀ {l m : List AV} {x y : List Value}, VRL r l x → VRL r m y → VRL r (l ++ m) (x ++ y)
  | [], m, x, y, h, k => by simp only [VRL] at h; subst h; simpa using k
  | a :: l, m, x, y, h, k => by
    simp only [VRL] at h; obtain ⟨c, z, rfl, h2, h3⟩ := h
    simp only [List.cons_append, VRL]; exact ⟨c, z ++ y, rfl, h2, VRL.append h3 k⟩
theorem VRL.take {r : Ren} : ∀ {l : List AV} {x : List Value}, VRL r l x → ∀ n, VRL r (l.take n) (x.take n)
  | [], x, h, n => by simp only [VRL] at h; subst h; simp [VRL]
  | a :: l, x, h, n => by
    simp only [VRL] at h; obtain ⟨c, z, rfl, h2, h3⟩ := h
    cases n with
    | zero => simp [VRL]
    | succ n => simp only [List.take_succ_cons, VRL]; exact ⟨c, _, rfl, h2, VRL.take h3 n⟩
theorem VRL.drop {r : Ren} : ∀ {l : List AV} {x : List Value}, VRL r l x → ∀ n, VRL r (l.drop n) (x.drop n)
  | [], x, h, n => by simp only [VRL] at h; subst h; simp [VRL]
  | a :: l, x, h, n => by
    simp only [VRL] at h; obtain ⟨c, z, rfl, h2, h3⟩ := h
    cases n with
    | zero => simp only [List.drop_zero, VRL]; exact ⟨c, z, rfl, h2, h3⟩
    | succ n => simpa using VRL.drop h3 n
theorem VRL.set {r : Ren} : ∀ {l : List AV} {x : List Value}, VRL r l x → ∀ {a : AV} {v : Value} (j : Nat), VR r a v → VRL r (l.set j a) (x.set j v)
  | [], x, h, a, v, j, k => by simp only [VRL] at h; subst h; simp [VRL]
  | b :: l, x, h, a, v, j, k => by
    simp only [VRL] at h; obtain ⟨c, z, rfl, h2, h3⟩ := h
    cases j with
    | zero => simp only [List.set_cons_zero, VRL]; exact ⟨v, z, rfl, k, h3⟩
    | succ j => simp only [List.set_cons_succ, VRL]; exact ⟨c, _, rfl, h2, VRL.set h3 j k⟩

theorem Sim.le_of_ext {P : Program} {r r' : Ren} {H H' : Heap} {w w' : World} (s : Sim P r H w) (e : Ext r H w r' H' w') : r.le r' :=
  fun b x h => by rw [e.ren b (s.dom b x.1 x.2 h).1]; exact h

theorem Ext.refl (r : Ren) (H : Heap) (w : World) : Ext r H w r H w :=
  ⟨fun _ _ => rfl, Nat.le_refl _, Nat.le_refl _, fun _ _ _ => rfl, fun _ _ h => h, rfl, rfl, rfl⟩
theorem Ext.trans {r r' r'' : Ren} {H H' H'' : Heap} {w w' w'' : World} (a : Ext r H w r' H' w') (b : Ext r' H' w' r'' H'' w'') : Ext r H w r'' H'' w'' where
  ren k hk := (b.ren k (Nat.lt_of_lt_of_le hk a.next)).trans (a.ren k hk)
  next := Nat.le_trans a.next b.next
  size := Nat.le_trans a.size b.size
  keep c hc hn := (b.keep c (Nat.lt_of_lt_of_le hc a.size) (fun h => hn (a.wrs c hc h))).trans (a.keep c hc hn)
  wrs c hc h := a.wrs c hc (b.wrs c (Nat.lt_of_lt_of_le hc a.size) h)
  tape := b.tape.trans a.tape
  os := b.os.trans a.os
  output := b.output.trans a.output

/-- A draw changes nothing. -/
theorem Sim.drew {P : Program} {r : Ren} {H : Heap} {w : World} (s : Sim P r H w) (n : Nat) : Sim P r H { w with drawn := n } :=
  ⟨s.blk, s.inj, s.dom, s.glb⟩
theorem Ext.drew (r : Ren) (H : Heap) (w : World) (n : Nat) : Ext r H w r H { w with drawn := n } :=
  ⟨fun _ _ => rfl, Nat.le_refl _, Nat.le_refl _, fun _ _ _ => rfl, fun _ _ h => h, rfl, rfl, rfl⟩

theorem BR.mono {r r' : Ren} {B : Blk} {c e : Nat} {w w' : World} (h : BR r B c e w) (hr : r.le r') (hw : w'.heap[c]? = w.heap[c]?) : BR r' B c e w' := by
  obtain ⟨cells, el, fz, h1, h2, h3, x, y, h4, h5⟩ := h
  exact ⟨cells, el, fz, hw.trans h1, h2, h3, x, y, h4, VRL.mono hr _ _ h5⟩

def upd (r : Ren) (b : Nat) (x : Nat × Nat) : Ren := fun k => if k = b then some x else r k

theorem alloc_old (w : World) (o : Obj) (k : Nat) (h : k < w.heap.size) : (w.alloc o).heap[k]? = w.heap[k]? := by
  simp only [World.alloc, Array.getElem?_push]; rw [if_neg (by omega)]
theorem alloc_new (w : World) (o : Obj) : (w.alloc o).heap[w.heap.size]? = some o := by
  simp only [World.alloc, Array.getElem?_push]; simp
/-- A new block. -/
theorem Sim.alloc {P : Program} {r : Ren} {H : Heap} {w : World} (s : Sim P r H w) (B : Blk) (cells : List Value) (el : TypeId) (fz : Nat × Nat)
    (hf : (fz.1 ≤ fz.2 ∧ ∀ j, j < cells.length → (fz.1 ≤ j && j < fz.2) = false) ∨ B.wr = false) (hx : ∃ x y, cells = x ++ y ∧ VRL r B.cells x) :
    Sim P (upd r H.next (w.heap.size, cells.length)) (H.alloc B) (w.alloc (.cells cells.toArray el fz)) ∧
    Ext r H w (upd r H.next (w.heap.size, cells.length)) (H.alloc B) (w.alloc (.cells cells.toArray el fz)) := by
  have hnone : r H.next = none := by
    cases h : r H.next with
    | none => rfl
    | some x => exact absurd (s.dom _ x.1 x.2 h).1 (Nat.lt_irrefl _)
  have hle : r.le (upd r H.next (w.heap.size, cells.length)) := fun b x h => by
    unfold upd
    rw [if_neg (fun e => by subst e; rw [hnone] at h; cases h)]; exact h
  have hne : ∀ b x, r b = some x → b ≠ H.next := fun b x h e => by subst e; rw [hnone] at h; cases h
  obtain ⟨x, y, hxy, hv⟩ := hx
  refine ⟨⟨?_, ?_, ?_, ?_⟩, ⟨?_, ?_, ?_, ?_, ?_, rfl, rfl, rfl⟩⟩
  · intro b B' c e hb hr
    rw [Heap.get_alloc] at hb
    by_cases hbn : H.next = b
    · rw [if_pos hbn] at hb; cases hb
      simp only [upd, hbn, if_true, Option.some.injEq, Prod.mk.injEq] at hr
      obtain ⟨rfl, rfl⟩ := hr
      exact ⟨cells, el, fz, alloc_new w _, Nat.le_refl _, hf, x, y, hxy, VRL.mono hle _ _ hv⟩
    · rw [if_neg hbn] at hb
      have hr' : r b = some (c, e) := by unfold upd at hr; rwa [if_neg (fun e => hbn e.symm)] at hr
      exact (s.blk b B' c e hb hr').mono hle (alloc_old w _ c (s.dom b c e hr').2)
  · intro b B1 b' B2 c e e' hb hw hb' hr hr'
    rw [Heap.get_alloc] at hb hb'
    unfold upd at hr hr'
    by_cases h1 : H.next = b <;> by_cases h2 : H.next = b'
    · omega
    · rw [if_pos h1.symm] at hr; rw [if_neg (fun e => h2 e.symm)] at hr'
      cases hr
      exact absurd (s.dom _ _ _ hr').2 (Nat.lt_irrefl _)
    · rw [if_neg (fun e => h1 e.symm)] at hr; rw [if_pos h2.symm] at hr'
      cases hr'
      exact absurd (s.dom _ _ _ hr).2 (Nat.lt_irrefl _)
    · rw [if_neg h1] at hb; rw [if_neg h2] at hb'
      rw [if_neg (fun e => h1 e.symm)] at hr; rw [if_neg (fun e => h2 e.symm)] at hr'
      exact s.inj b B1 b' B2 c e e' hb hw hb' hr hr'
  · intro b c e hr
    unfold upd at hr
    by_cases h1 : b = H.next
    · rw [if_pos h1] at hr; cases hr; subst h1; simp
    · rw [if_neg h1] at hr; have := s.dom b c e hr; simp; omega
  · intro g hg
    obtain ⟨e, he⟩ := s.glb g hg
    exact ⟨e, hle _ _ he⟩
  · intro b hb; unfold upd; rw [if_neg (by omega)]
  · simp
  · simp
  · intro c hc _; exact alloc_old w _ c hc
  · rintro c hc ⟨b, B', e, hb, hw, hr⟩
    rw [Heap.get_alloc] at hb
    unfold upd at hr
    by_cases h1 : H.next = b
    · rw [if_pos h1.symm] at hr; cases hr; omega
    · rw [if_neg h1] at hb; rw [if_neg (fun e => h1 e.symm)] at hr; exact ⟨b, B', e, hb, hw, hr⟩

end Go.Abs
