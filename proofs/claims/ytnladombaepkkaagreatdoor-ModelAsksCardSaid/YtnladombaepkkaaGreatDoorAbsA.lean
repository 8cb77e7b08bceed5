/- The abstract machine's values, its heap, and how they stand for the model's: definitions and first lemmas. Conditions: none. The abstract machine: what one operation gives. Conditions: none. The abstract machine's operations are the model's: those that leave the heap as it is. Conditions: none. The abstract machine's operations are the model's: arithmetic, loads, parts, slices. Conditions: none. The abstract machine's operations are the model's: comparisons, conversions, places, and all that leave the heap as it is. Conditions: none. The abstract machine: '==' of structs and arrays. Conditions: none. The abstract machine's operations are the model's: all that leave the heap as it is. Conditions: none. The abstract machine's operations are the model's: every operation that leaves the heap as it is. Conditions: none. The abstract machine's operations are the model's: the theorem on those that leave the heap as it is. Conditions: none. -/
import Derived.Orders
import Derived.Laws.Rows
import Derived.Laws.Concat
import Derived.Laws.AppendOwn
import Derived.WalkKit
import Derived.Laws.StructEq
import Derived.ChangeKeysEq
import Derived.Laws.BytesArg
set_option linter.all false
namespace Go.Abs
open Go

/-- Abstract values. Blocks are numbered by the abstract heap. -/
inductive Cap where
  | kn (n : Nat)
  | op (es : Nat)

inductive AV where
  | b (x : Bool)
  | i (k : IntKind) (n : Int)
  | s (l : List UInt8)
  | p (b o : Nat)
  | np
  | sl (b o len : Nat) (cap : Cap)
  | ns
  | em
  | fn (f : Fn) (fi ca : List AV)
  | nf
  | ag (l : List AV)
  | tu (l : List AV)
  | ni
  | ifc (t : TypeId) (v : AV)
  | mp (b : Nat)
  | nm
  | raw

abbrev Ren := Nat → Option (Nat × Nat)

mutual
def VR (r : Ren) : AV → Value → Prop
  | .b x, v => v = .bool x
  | .i k n, v => v = .int k n
  | .s l, v => v = .string ⟨l.toArray⟩
  | .p b o, v => ∃ c e, r b = some (c, e) ∧ v = .pointer (some ⟨c, o, none⟩)
  | .np, v => v = .pointer none
  | .sl b o len cap, v => ∃ c e k, r b = some (c, e) ∧ v = .slice (some ⟨c, o, none⟩) len k ∧
      (match cap with | .kn n => k = n | .op es => len ≤ k ∧ o + k * es ≤ e)
  | .ns, v => v = .slice none 0 0
  | .em, v => ∃ a k, v = .slice (some a) 0 k
  | .fn f fi ca, v => ∃ x y : List Value, v = .func f x.toArray y.toArray ∧ VRL r fi x ∧ VRL r ca y
  | .nf, v => v = .nilFunc
  | .ag l, v => ∃ x : List Value, v = .agg x.toArray ∧ VRL r l x
  | .tu l, v => ∃ x : List Value, v = .tuple x.toArray ∧ VRL r l x
  | .ni, v => v = .nilIface
  | .ifc t u, v => ∃ x, v = .iface t x ∧ VR r u x
  | .mp b, v => ∃ c e, r b = some (c, e) ∧ v = .map (some c)
  | .nm, v => v = .map none
  | .raw, v => ∀ x, v ≠ .agg x
def VRL (r : Ren) : List AV → List Value → Prop
  | [], x => x = []
  | a :: l, x => ∃ c y, x = c :: y ∧ VR r a c ∧ VRL r l y
end

/-- Tries: numbers to things. -/
inductive Tr (α : Type) where
  | l
  | n (a : Tr α) (v : Option α) (b : Tr α)

namespace Tr
variable {α : Type}
def get : Tr α → Nat → Option α
  | .l, _ => none
  | .n a v b, k => bif k == 0 then v else bif k % 2 == 1 then get a (k / 2) else get b (k / 2 - 1)
def one : Nat → Nat → Option α → Tr α
  | 0, _, _ => .l
  | f + 1, k, x => bif k == 0 then .n .l x .l else bif k % 2 == 1 then .n (one f (k / 2) x) none .l else .n .l none (one f (k / 2 - 1) x)
def put : Tr α → Nat → Option α → Tr α
  | .l, k, x => one (k + 1) k x
  | .n a v b, k, x => bif k == 0 then .n a x b else bif k % 2 == 1 then .n (put a (k / 2) x) v b else .n a v (put b (k / 2 - 1) x)

theorem get_node (a b : Tr α) (v : Option α) (k : Nat) : (Tr.n a v b).get k = if k = 0 then v else if k % 2 = 1 then a.get (k / 2) else b.get (k / 2 - 1) := by
  simp only [get, Bool.cond_eq_ite, beq_iff_eq]
theorem one_succ (f k : Nat) (x : Option α) : one (f + 1) k x = if k = 0 then .n .l x .l else if k % 2 = 1 then .n (one f (k / 2) x) none .l else .n .l none (one f (k / 2 - 1) x) := by
  simp only [one, Bool.cond_eq_ite, beq_iff_eq]
theorem put_node (a b : Tr α) (v : Option α) (k : Nat) (x : Option α) : (Tr.n a v b).put k x = if k = 0 then .n a x b else if k % 2 = 1 then .n (a.put (k / 2) x) v b else .n a v (b.put (k / 2 - 1) x) := by
  simp only [put, Bool.cond_eq_ite, beq_iff_eq]
theorem get_leaf (k : Nat) : (Tr.l : Tr α).get k = none := rfl
theorem get_one_self : ∀ (f k : Nat) (x : Option α), k < f → (one f k x).get k = x
  | 0, _, _, h => by omega
  | f + 1, k, x, h => by
    rw [one_succ]
    by_cases h0 : k = 0
    · rw [if_pos h0, get_node, if_pos h0]
    · rw [if_neg h0]
      by_cases h1 : k % 2 = 1
      · rw [if_pos h1, get_node, if_neg h0, if_pos h1, get_one_self f _ x (by omega)]
      · rw [if_neg h1, get_node, if_neg h0, if_neg h1, get_one_self f _ x (by omega)]
theorem get_one_ne : ∀ (f k j : Nat) (x : Option α), k ≠ j → (one f k x).get j = none
  | 0, _, _, _, _ => rfl
  | f + 1, k, j, x, h => by
    rw [one_succ]
    (repeat' split) <;> rw [get_node] <;> (repeat' split) <;> first | rfl | (exfalso; omega) | exact get_one_ne f _ _ x (by omega)
theorem get_put_self : ∀ (t : Tr α) (k : Nat) (x : Option α), (t.put k x).get k = x
  | .l, k, x => get_one_self _ k x (by omega)
  | .n a v b, k, x => by
    rw [put_node]
    by_cases h0 : k = 0
    · rw [if_pos h0, get_node, if_pos h0]
    · rw [if_neg h0]
      by_cases h1 : k % 2 = 1
      · rw [if_pos h1, get_node, if_neg h0, if_pos h1, get_put_self a]
      · rw [if_neg h1, get_node, if_neg h0, if_neg h1, get_put_self b]
theorem get_put_ne : ∀ (t : Tr α) (k j : Nat) (x : Option α), k ≠ j → (t.put k x).get j = t.get j
  | .l, k, j, x, h => get_one_ne _ k j x h
  | .n a v b, k, j, x, h => by
    rw [put_node]
    (repeat' split) <;> rw [get_node, get_node] <;> (repeat' split) <;> first | rfl | (exfalso; omega) | exact get_put_ne a _ _ x (by omega) | exact get_put_ne b _ _ x (by omega)
theorem get_put (t : Tr α) (k j : Nat) (x : Option α) : (t.put k x).get j = if k = j then x else t.get j := by
  by_cases h : k = j
  · subst h; rw [if_pos rfl, get_put_self]
  · rw [if_neg h, get_put_ne t k j x h]
end Tr

structure Blk where
  cells : List AV
  wr : Bool

structure Heap where
  next : Nat
  t : Tr Blk

namespace Heap
def get (h : Heap) (b : Nat) : Option Blk := bif Nat.blt b h.next then h.t.get b else none
def set (h : Heap) (b : Nat) (x : Blk) : Heap := ⟨h.next, h.t.put b (some x)⟩
def alloc (h : Heap) (x : Blk) : Heap := ⟨h.next + 1, h.t.put h.next (some x)⟩
/-- One block is given up, and a new one begins. -/
def turn (h : Heap) (b : Nat) (x : Blk) : Heap := ⟨h.next + 1, (h.t.put b none).put h.next (some x)⟩
@[simp] theorem next_set (h : Heap) (b : Nat) (x : Blk) : (h.set b x).next = h.next := rfl
@[simp] theorem next_alloc (h : Heap) (x : Blk) : (h.alloc x).next = h.next + 1 := rfl
@[simp] theorem next_turn (h : Heap) (b : Nat) (x : Blk) : (h.turn b x).next = h.next + 1 := rfl
theorem get_if (h : Heap) (b : Nat) : h.get b = if b < h.next then h.t.get b else none := by
  simp only [get, Bool.cond_eq_ite]
  by_cases hb : b < h.next
  · rw [if_pos hb, if_pos (by simpa [Nat.blt_eq] using hb)]
  · rw [if_neg hb, if_neg (by simpa [Nat.blt_eq] using hb)]
theorem lt_of_get {h : Heap} {b : Nat} {x : Blk} (hb : h.get b = some x) : b < h.next := by
  rw [get_if] at hb
  split at hb
  · assumption
  · cases hb
theorem get_set {h : Heap} {b : Nat} {y : Blk} (hb : h.get b = some y) (j : Nat) (x : Blk) : (h.set b x).get j = if b = j then some x else h.get j := by
  have := lt_of_get hb
  simp only [get_if, set, Tr.get_put]
  by_cases hj : b = j
  · subst hj; simp [this]
  · simp [hj]
theorem get_alloc (h : Heap) (j : Nat) (x : Blk) : (h.alloc x).get j = if h.next = j then some x else h.get j := by
  simp only [get_if, alloc, Tr.get_put]
  by_cases hj : h.next = j
  · subst hj; simp
  · simp only [hj, if_false]
    by_cases h1 : j < h.next
    · rw [if_pos (by omega), if_pos h1]
    · rw [if_neg (by omega), if_neg h1]
theorem get_turn (h : Heap) (b j : Nat) (x : Blk) : (h.turn b x).get j = if h.next = j then some x else if b = j then none else h.get j := by
  simp only [get_if, turn, Tr.get_put]
  by_cases hj : h.next = j
  · subst hj; simp
  · simp only [hj, if_false]
    by_cases h1 : j < h.next
    · rw [if_pos (by omega), if_pos h1]
    · rw [if_neg (by omega), if_neg h1]; simp
end Heap

/-- How a block's cells stand for a block of the world. -/
def BR (r : Ren) (B : Blk) (c e : Nat) (w : World) : Prop :=
  ∃ (cells : List Value) (el : TypeId) (fz : Nat × Nat), w.heap[c]? = some (.cells cells.toArray el fz) ∧ e ≤ cells.length ∧
    ((fz.1 ≤ fz.2 ∧ ∀ j, j < cells.length → (fz.1 ≤ j && j < fz.2) = false) ∨ B.wr = false) ∧ (∃ x y, cells = x ++ y ∧ VRL r B.cells x)

structure Sim (P : Program) (r : Ren) (H : Heap) (w : World) : Prop where
  blk : ∀ b B c e, H.get b = some B → r b = some (c, e) → BR r B c e w
  inj : ∀ b B b' B' c e e', H.get b = some B → B.wr = true → H.get b' = some B' → r b = some (c, e) → r b' = some (c, e') → b = b'
  dom : ∀ b c e, r b = some (c, e) → b < H.next ∧ c < w.heap.size
  glb : ∀ g, g < P.globals.size → ∃ e, r g = some (g, e)

/-- A block of the world that may be written. -/
def Wr (r : Ren) (H : Heap) (c : Nat) : Prop := ∃ b B e, H.get b = some B ∧ B.wr = true ∧ r b = some (c, e)

structure Ext (r : Ren) (H : Heap) (w : World) (r' : Ren) (H' : Heap) (w' : World) : Prop where
  ren : ∀ b, b < H.next → r' b = r b
  next : H.next ≤ H'.next
  size : w.heap.size ≤ w'.heap.size
  keep : ∀ c, c < w.heap.size → ¬ Wr r H c → w'.heap[c]? = w.heap[c]?
  wrs : ∀ c, c < w.heap.size → Wr r' H' c → Wr r H c
  tape : w'.tape = w.tape
  os : w'.os = w.os
  output : w'.output = w.output

/-- What stands in one renaming stands in a later one. -/
def Ren.le (r r' : Ren) : Prop := ∀ b x, r b = some x → r' b = some x

mutual
theorem VR.mono {r r' : Ren} (h : r.le r') : ∀ (a : AV) (v : Value), VR r a v → VR r' a v
  | .b _, _, k | .i _ _, _, k | .s _, _, k | .np, _, k | .ns, _, k | .em, _, k | .nf, _, k | .ni, _, k | .nm, _, k | .raw, _, k => by simpa only [VR] using k
  | .p b o, v, k => by simp only [VR] at k ⊢; obtain ⟨c, e, h1, h2⟩ := k; exact ⟨c, e, h _ _ h1, h2⟩
  | .mp b, v, k => by simp only [VR] at k ⊢; obtain ⟨c, e, h1, h2⟩ := k; exact ⟨c, e, h _ _ h1, h2⟩
  | .sl b o len cap, v, k => by simp only [VR] at k ⊢; obtain ⟨c, e, q, h1, h2, h3⟩ := k; exact ⟨c, e, q, h _ _ h1, h2, h3⟩
  | .fn f fi ca, v, k => by
    simp only [VR] at k ⊢; obtain ⟨x, y, h1, h2, h3⟩ := k; exact ⟨x, y, h1, VRL.mono h fi x h2, VRL.mono h ca y h3⟩
  | .ag l, v, k => by simp only [VR] at k ⊢; obtain ⟨x, h1, h2⟩ := k; exact ⟨x, h1, VRL.mono h l x h2⟩
  | .tu l, v, k => by simp only [VR] at k ⊢; obtain ⟨x, h1, h2⟩ := k; exact ⟨x, h1, VRL.mono h l x h2⟩
  | .ifc t u, v, k => by simp only [VR] at k ⊢; obtain ⟨x, h1, h2⟩ := k; exact ⟨x, h1, VR.mono h u x h2⟩
theorem VRL.mono {r r' : Ren} (h : r.le r') : ∀ (l : List AV) (x : List Value), VRL r l x → VRL r' l x
  | [], x, k => by simpa only [VRL] using k
  | a :: l, x, k => by
    simp only [VRL] at k ⊢; obtain ⟨c, y, h1, h2, h3⟩ := k; exact ⟨c, y, h1, VR.mono h a c h2, VRL.mono h l y h3⟩
end

theorem VRL.length {r : Ren} : ∀ {l : List AV} {x : List Value}, VRL r l x → x.length = l.length
  | [], x, h => by simp only [VRL] at h; simp [h]
  | a :: l, x, h => by simp only [VRL] at h; obtain ⟨c, y, rfl, _, h3⟩ := h; simp [VRL.length h3]
theorem VRL.get {r : Ren} : ∀ {l : List AV} {x : List Value}, VRL r l x → ∀ {j : Nat} {a : AV}, l[j]? = some a → ∃ c, x[j]? = some c ∧ VR r a c
  | [], x, h, j, a, hj => by simp at hj
  | b :: l, x, h, j, a, hj => by
    simp only [VRL] at h; obtain ⟨c, y, rfl, h2, h3⟩ := h
    cases j with
    | zero => simp at hj; subst hj; exact ⟨c, by simp, h2⟩
    | succ j => simp at hj; obtain ⟨d, h4, h5⟩ := VRL.get h3 hj; exact ⟨d, by simpa using h4, h5⟩
theorem VRL.append {r : Ren} : ∀ {l m : List AV} {x y : List Value}, VRL r l x → VRL r m y → VRL r (l ++ m) (x ++ y)
  | [], m, x, y, h, k => by simp only [VRL] at h; subst h; simpa using k
  | a :: l, m, x, y, h, k => by
    simp only [VRL] at h; obtain ⟨c, z, rfl, h2, h3⟩ := h
    simp only [List.cons_append, VRL]; exact ⟨c, z ++ y, rfl, h2, VRL.append h3 k⟩
theorem VRL.take {r : Ren} : ∀ {l : List AV} {x : List Value}, VRL r l x → ∀ n, VRL r (l.take n) (x.take n)
  | [], x, h, n => by simp only [VRL] at h; subst h; simp [VRL]
  | a :: l, x, h, n => by
    simp only [VRL] at h; obtain ⟨c, z, rfl, h2, h3⟩ := h
    cases n with
    | zero => simp [VRL]
    | succ n => simp only [List.take_succ_cons, VRL]; exact ⟨c, _, rfl, h2, VRL.take h3 n⟩
theorem VRL.drop {r : Ren} : ∀ {l : List AV} {x : List Value}, VRL r l x → ∀ n, VRL r (l.drop n) (x.drop n)
  | [], x, h, n => by simp only [VRL] at h; subst h; simp [VRL]
  | a :: l, x, h, n => by
    simp only [VRL] at h; obtain ⟨c, z, rfl, h2, h3⟩ := h
    cases n with
    | zero => simp only [List.drop_zero, VRL]; exact ⟨c, z, rfl, h2, h3⟩
    | succ n => simpa using VRL.drop h3 n
theorem VRL.set {r : Ren} : ∀ {l : List AV} {x : List Value}, VRL r l x → ∀ {a : AV} {v : Value} (j : Nat), VR r a v → VRL r (l.set j a) (x.set j v)
  | [], x, h, a, v, j, k => by simp only [VRL] at h; subst h; simp [VRL]
  | b :: l, x, h, a, v, j, k => by
    simp only [VRL] at h; obtain ⟨c, z, rfl, h2, h3⟩ := h
    cases j with
    | zero => simp only [List.set_cons_zero, VRL]; exact ⟨v, z, rfl, k, h3⟩
    | succ j => simp only [List.set_cons_succ, VRL]; exact ⟨c, _, rfl, h2, VRL.set h3 j k⟩

theorem Sim.le_of_ext {P : Program} {r r' : Ren} {H H' : Heap} {w w' : World} (s : Sim P r H w) (e : Ext r H w r' H' w') : r.le r' :=
  fun b x h => by rw [e.ren b (s.dom b x.1 x.2 h).1]; exact h

theorem Ext.refl (r : Ren) (H : Heap) (w : World) : Ext r H w r H w :=
  ⟨fun _ _ => rfl, Nat.le_refl _, Nat.le_refl _, fun _ _ _ => rfl, fun _ _ h => h, rfl, rfl, rfl⟩
theorem Ext.trans {r r' r'' : Ren} {H H' H'' : Heap} {w w' w'' : World} (a : Ext r H w r' H' w') (b : Ext r' H' w' r'' H'' w'') : Ext r H w r'' H'' w'' where
  ren k hk := (b.ren k (Nat.lt_of_lt_of_le hk a.next)).trans (a.ren k hk)
  next := Nat.le_trans a.next b.next
  size := Nat.le_trans a.size b.size
  keep c hc hn := (b.keep c (Nat.lt_of_lt_of_le hc a.size) (fun h => hn (a.wrs c hc h))).trans (a.keep c hc hn)
  wrs c hc h := a.wrs c hc (b.wrs c (Nat.lt_of_lt_of_le hc a.size) h)
  tape := b.tape.trans a.tape
  os := b.os.trans a.os
  output := b.output.trans a.output

/-- A draw changes nothing. -/
theorem Sim.drew {P : Program} {r : Ren} {H : Heap} {w : World} (s : Sim P r H w) (n : Nat) : Sim P r H { w with drawn := n } :=
  ⟨s.blk, s.inj, s.dom, s.glb⟩
theorem Ext.drew (r : Ren) (H : Heap) (w : World) (n : Nat) : Ext r H w r H { w with drawn := n } :=
  ⟨fun _ _ => rfl, Nat.le_refl _, Nat.le_refl _, fun _ _ _ => rfl, fun _ _ h => h, rfl, rfl, rfl⟩

theorem BR.mono {r r' : Ren} {B : Blk} {c e : Nat} {w w' : World} (h : BR r B c e w) (hr : r.le r') (hw : w'.heap[c]? = w.heap[c]?) : BR r' B c e w' := by
  obtain ⟨cells, el, fz, h1, h2, h3, x, y, h4, h5⟩ := h
  exact ⟨cells, el, fz, hw.trans h1, h2, h3, x, y, h4, VRL.mono hr _ _ h5⟩

def upd (r : Ren) (b : Nat) (x : Nat × Nat) : Ren := fun k => if k = b then some x else r k

theorem alloc_old (w : World) (o : Obj) (k : Nat) (h : k < w.heap.size) : (w.alloc o).heap[k]? = w.heap[k]? := by
  simp only [World.alloc, Array.getElem?_push]; rw [if_neg (by omega)]
theorem alloc_new (w : World) (o : Obj) : (w.alloc o).heap[w.heap.size]? = some o := by
  simp only [World.alloc, Array.getElem?_push]; simp
/-- A new block. -/
theorem Sim.alloc {P : Program} {r : Ren} {H : Heap} {w : World} (s : Sim P r H w) (B : Blk) (cells : List Value) (el : TypeId) (fz : Nat × Nat)
    (hf : (fz.1 ≤ fz.2 ∧ ∀ j, j < cells.length → (fz.1 ≤ j && j < fz.2) = false) ∨ B.wr = false) (hx : ∃ x y, cells = x ++ y ∧ VRL r B.cells x) :
    Sim P (upd r H.next (w.heap.size, cells.length)) (H.alloc B) (w.alloc (.cells cells.toArray el fz)) ∧
    Ext r H w (upd r H.next (w.heap.size, cells.length)) (H.alloc B) (w.alloc (.cells cells.toArray el fz)) := by
  have hnone : r H.next = none := by
    cases h : r H.next with
    | none => rfl
    | some x => exact absurd (s.dom _ x.1 x.2 h).1 (Nat.lt_irrefl _)
  have hle : r.le (upd r H.next (w.heap.size, cells.length)) := fun b x h => by
    unfold upd
    rw [if_neg (fun e => by subst e; rw [hnone] at h; cases h)]; exact h
  have hne : ∀ b x, r b = some x → b ≠ H.next := fun b x h e => by subst e; rw [hnone] at h; cases h
  obtain ⟨x, y, hxy, hv⟩ := hx
  refine ⟨⟨?_, ?_, ?_, ?_⟩, ⟨?_, ?_, ?_, ?_, ?_, rfl, rfl, rfl⟩⟩
  · intro b B' c e hb hr
    rw [Heap.get_alloc] at hb
    by_cases hbn : H.next = b
    · rw [if_pos hbn] at hb; cases hb
      simp only [upd, hbn, if_true, Option.some.injEq, Prod.mk.injEq] at hr
      obtain ⟨rfl, rfl⟩ := hr
      exact ⟨cells, el, fz, alloc_new w _, Nat.le_refl _, hf, x, y, hxy, VRL.mono hle _ _ hv⟩
    · rw [if_neg hbn] at hb
      have hr' : r b = some (c, e) := by unfold upd at hr; rwa [if_neg (fun e => hbn e.symm)] at hr
      exact (s.blk b B' c e hb hr').mono hle (alloc_old w _ c (s.dom b c e hr').2)
  · intro b B1 b' B2 c e e' hb hw hb' hr hr'
    rw [Heap.get_alloc] at hb hb'
    unfold upd at hr hr'
    by_cases h1 : H.next = b <;> by_cases h2 : H.next = b'
    · omega
    · rw [if_pos h1.symm] at hr; rw [if_neg (fun e => h2 e.symm)] at hr'
      cases hr
      exact absurd (s.dom _ _ _ hr').2 (Nat.lt_irrefl _)
    · rw [if_neg (fun e => h1 e.symm)] at hr; rw [if_pos h2.symm] at hr'
      cases hr'
      exact absurd (s.dom _ _ _ hr).2 (Nat.lt_irrefl _)
    · rw [if_neg h1] at hb; rw [if_neg h2] at hb'
      rw [if_neg (fun e => h1 e.symm)] at hr; rw [if_neg (fun e => h2 e.symm)] at hr'
      exact s.inj b B1 b' B2 c e e' hb hw hb' hr hr'
  · intro b c e hr
    unfold upd at hr
    by_cases h1 : b = H.next
    · rw [if_pos h1] at hr; cases hr; subst h1; simp
    · rw [if_neg h1] at hr; have := s.dom b c e hr; simp; omega
  · intro g hg
    obtain ⟨e, he⟩ := s.glb g hg
    exact ⟨e, hle _ _ he⟩
  · intro b hb; unfold upd; rw [if_neg (by omega)]
  · simp
  · simp
  · intro c hc _; exact alloc_old w _ c hc
  · rintro c hc ⟨b, B', e, hb, hw, hr⟩
    rw [Heap.get_alloc] at hb
    unfold upd at hr
    by_cases h1 : H.next = b
    · rw [if_pos h1.symm] at hr; cases hr; omega
    · rw [if_neg h1] at hb; rw [if_neg (fun e => h1 e.symm)] at hr; exact ⟨b, B', e, hb, hw, hr⟩

end Go.Abs
namespace Go.Abs
open Go

inductive TK where
  | int (k : IntKind)
  | bool
  | string
  | slice (e : TypeId)
  | ptr (e : TypeId)
  | struct (fs : List (Nat × Nat × TypeId))
  | arr (n : Nat) (e : TypeId)
  | func
  | map (k e : TypeId)
  | other

structure TI where
  k : TK
  size : Nat
  bytes : Nat
  zero : List AV

def TI.agg (t : TI) : Bool := match t.k with | .struct _ => true | .arr _ _ => true | _ => false

def noRen : Ren := fun _ => none

def KOK (P : Program) (d : TypeDesc) : TK → Prop
  | .int k => d = .int k
  | .bool => d = .bool
  | .string => d = .string
  | .slice e => d = .slice e
  | .ptr e => d = .pointer e
  | .struct fs => ∃ a : Array Field, d = .struct a ∧ a.toList.map (fun f => (f.offset, f.type)) = fs.map (fun x => (x.1, x.2.2)) ∧
      ∀ x ∈ fs, (P.info? x.2.2).map (·.size) = some x.2.1
  | .arr n e => d = .array n e
  | .func => ∃ a b c, d = .func a b c
  | .map k e => d = .map k e
  | .other => (match d with | .struct _ | .array _ _ => true | _ => false) = false

structure TIOK (P : Program) (t : TypeId) (i : TI) : Prop where
  info : ∃ x, P.info? t = some x ∧ x.size = i.size ∧ x.bytes = i.bytes ∧ ∃ z, x.zero = some z ∧ VRL noRen i.zero z.cells.toList
  desc : ∃ d, P.underlying t = some d ∧ KOK P d i.k

/-- What the abstract machine knows of the program. -/
structure Cfg where
  T : TypeId → Option TI
  nG : Nat
  E : TypeId → Bool

/-- Types of structs and arrays whose every part is a number, a bool or a string. -/
def flatEq (P : Program) : Nat → TypeId → Bool
  | 0, _ => false
  | n + 1, t =>
    match P.underlying t with
    | some .bool => true
    | some (.int _) => true
    | some .string => true
    | some (.struct fs) => !P.stoodInHeld t && fs.toList.all fun f => f.name != "_" && flatEq P n f.type
    | some (.array _ e) => flatEq P n e
    | _ => false

def AV.one : AV → Bool
  | .ag _ => false
  | .raw => false
  | .tu _ => false
  | _ => true
def AV.cells : AV → List AV
  | .ag l => l
  | v => [v]

def AV.rebase (b : Nat) : AV → AV
  | .p _ o => .p b o
  | .sl _ o l c => .sl b o l c
  | v => v

def cAV1 : Value → Option AV
  | .bool b => some (.b b)
  | .int k n => some (.i k n)
  | .string s => some (.s s.data.toList)
  | .pointer none => some .np
  | .slice none 0 0 => some .ns
  | .nilFunc => some .nf
  | .nilIface => some .ni
  | .map none => some .nm
  | _ => none
def cAVs : List Value → Option (List AV)
  | [] => some []
  | v :: l => match cAV1 v, cAVs l with | some a, some m => some (a :: m) | _, _ => none
def cAV (v : Value) : Option AV :=
  match v with
  | .agg cs => match cAVs cs.toList with | some l => some (.ag l) | none => none
  | v => cAV1 v

abbrev TM := Tr AV

def aev (C : Cfg) (tm : TM) : Operand → Option AV
  | .tmp t => tm.get t
  | .const v => cAV v
  | .global g => bif Nat.blt g C.nG then some (.p g 0) else none
  | .func f => some (.fn (.func f) [] [])

def aevs (ρ : Operand → Option AV) : List Operand → Option (List AV)
  | [] => some []
  | x :: l => match ρ x, aevs ρ l with | some a, some m => some (a :: m) | _, _ => none
def aparts (ρ : Operand → Option AV) : List (Nat × Operand) → Option (List (Nat × AV))
  | [] => some []
  | x :: l => match ρ x.2, aparts ρ l with | some a, some m => some ((x.1, a) :: m) | _, _ => none

/-- A struct's or array's cells with some parts laid in. -/
def afill (place : Nat → Option (Nat × Nat)) (cells : List AV) : List (Nat × AV) → Option (List AV)
  | [] => some cells
  | (i, v) :: rest =>
    match place i with
    | none => none
    | some (off, size) =>
      if v.cells.length = size ∧ off + size ≤ cells.length then afill place (cells.take off ++ v.cells ++ cells.drop (off + size)) rest else none

def apart (C : Cfg) (t : TypeId) (cs : List AV) (off : Nat) : Option AV :=
  match C.T t with
  | none => none
  | some i => if i.agg then some (.ag ((cs.drop off).take i.size)) else cs[off]?

def aload (C : Cfg) (H : Heap) (t : TypeId) (b o : Nat) : Option AV :=
  match C.T t, H.get b with
  | some i, some B => if i.agg then (if o + i.size ≤ B.cells.length then some (.ag ((B.cells.drop o).take i.size)) else none) else B.cells[o]?
  | _, _ => none

def abin (op : BinOp) (k : IntKind) (a b : Int) : Option AV :=
  match op with
  | .add => some (.i k (k.wrap (a + b)))
  | .sub => some (.i k (k.wrap (a - b)))
  | .mul => some (.i k (k.wrap (a * b)))
  | .quo => if b = 0 then none else some (.i k (k.wrap (a.tdiv b)))
  | .rem => if b = 0 then none else some (.i k (a.tmod b))
  | .and => some (.i k (k.wrap (BitVec.ofInt k.bits a &&& BitVec.ofInt k.bits b).toNat))
  | .or => some (.i k (k.wrap (BitVec.ofInt k.bits a ||| BitVec.ofInt k.bits b).toNat))
  | .xor => some (.i k (k.wrap (BitVec.ofInt k.bits a ^^^ BitVec.ofInt k.bits b).toNat))
  | .andNot => some (.i k (k.wrap (BitVec.ofInt k.bits a &&& ~~~BitVec.ofInt k.bits b).toNat))
  | .eql => some (.b (a == b))
  | .neq => some (.b (a != b))
  | .lss => some (.b (decide (a < b)))
  | .leq => some (.b (decide (a ≤ b)))
  | .gtr => some (.b (decide (a > b)))
  | .geq => some (.b (decide (a ≥ b)))
  | _ => none

def astr (op : BinOp) (x y : List UInt8) : Option AV :=
  match op with
  | .add => if x.length + y.length ≤ 9223372036854775807 then some (.s (x ++ y)) else none
  | .eql => some (.b (x == y))
  | .neq => some (.b (!(x == y)))
  | .lss => some (.b (Op.bytesLess x y))
  | .leq => some (.b (Op.bytesLess x y || x == y))
  | .gtr => some (.b (!(Op.bytesLess x y || x == y)))
  | .geq => some (.b (!(Op.bytesLess x y)))
  | _ => none

/-- The kinds of '==' that are followed: numbers, bools, strings; a pointer or a slice or a function against nil. -/
def aeq1 : AV → AV → Option Bool
  | .i k a, .i k' b => if k = k' then some (a == b) else none
  | .b a, .b b => some (a == b)
  | .s a, .s b => some (a == b)
  | .np, .np => some true
  | .np, .p _ _ => some false
  | .p _ _, .np => some false
  | .ns, .ns => some true
  | .ns, .sl _ _ _ _ => some false
  | .sl _ _ _ _, .ns => some false
  | .ns, .em => some false
  | .em, .ns => some false
  | .nm, .nm => some true
  | .nm, .mp _ => some false
  | .mp _, .nm => some false
  | .nf, .nf => some true
  | .nf, .fn _ _ _ => some false
  | .fn _ _ _, .nf => some false
  | _, _ => none

def aeqFs (C : Cfg) (F : TypeId → AV → AV → Option Bool) : List (Nat × Nat × TypeId) → List AV → List AV → Option Bool
  | [], _, _ => some true
  | (off, _, ty) :: fs, l, m =>
    match apart C ty l off, apart C ty m off with
    | some a, some b => (match F ty a b, aeqFs C F fs l m with | some x, some y => some (x && y) | _, _ => none)
    | _, _ => none
def aeqIs (C : Cfg) (F : AV → AV → Option Bool) (e : TypeId) (sz : Nat) : List Nat → List AV → List AV → Option Bool
  | [], _, _ => some true
  | i :: is, l, m =>
    match apart C e l (i * sz), apart C e m (i * sz) with
    | some a, some b => (match F a b, aeqIs C F e sz is l m with | some x, some y => some (x && y) | _, _ => none)
    | _, _ => none
def aeqV (C : Cfg) : Nat → TypeId → AV → AV → Option Bool
  | 0, _, _, _ => none
  | n + 1, t, a, b =>
    match C.T t, a, b with
    | some ⟨.struct fs, _, _, _⟩, .ag l, .ag m => aeqFs C (aeqV C n) fs l m
    | some ⟨.arr len e, _, _, _⟩, .ag l, .ag m => (match C.T e with | some ei => aeqIs C (aeqV C n e) e ei.size (List.range len) l m | none => none)
    | some ⟨.int _, _, _, _⟩, .i k x, .i k' y => if k = k' then some (x == y) else none
    | some ⟨.bool, _, _, _⟩, .b x, .b y => some (x == y)
    | some ⟨.string, _, _, _⟩, .s x, .s y => some (x == y)
    | _, _, _ => none
/-- '==' of structs and arrays. -/
def aeqA (C : Cfg) (op : BinOp) (t : TypeId) (l m : List AV) : Option AV :=
  bif C.E t then (match op with
    | .eql => (aeqV C 9 t (.ag l) (.ag m)).map .b
    | .neq => (aeqV C 9 t (.ag l) (.ag m)).map fun z => .b !z
    | _ => none) else none

def aints (op : BinOp) (k : IntKind) (a : Int) (k' : IntKind) (b : Int) : Option AV :=
  match op with
  | .shl => if b < 0 then none else some (.i k (k.wrap (a * 2 ^ (min b.toNat k.bits))))
  | .shr => if b < 0 then none else some (.i k (a.fdiv (2 ^ (min b.toNat k.bits))))
  | op => if k = k' then abin op k a b else none
def aoth (op : BinOp) (x y : AV) : Option AV :=
  match op with
  | .eql => (aeq1 x y).map .b
  | .neq => (aeq1 x y).map fun t => .b !t
  | _ => none
def abinop (op : BinOp) (x y : AV) : Option AV :=
  match x, y with
  | .i k a, .i k' b => aints op k a k' b
  | .s a, .s b => astr op a b
  | x, y => aoth op x y

def isEq : BinOp → Bool
  | .eql => true
  | .neq => true
  | _ => false

def aun (op : UnOp) (x : AV) : Option AV :=
  match op, x with
  | .not, .b t => some (.b !t)
  | .neg, .i k n => some (.i k (k.wrap (0 - n)))
  | .xor, .i k n => some (.i k (k.wrap (BitVec.ofInt k.bits (if k.signed then -1 else k.max) ^^^ BitVec.ofInt k.bits n).toNat))
  | _, _ => none

def abytes : List AV → Option (List UInt8)
  | [] => some []
  | .i .u8 n :: l => match abytes l with | some m => some (UInt8.ofNat n.toNat :: m) | none => none
  | _ :: _ => none

def aconv (C : Cfg) (H : Heap) (src dst : TypeId) (x : AV) : Option AV :=
  match C.T src, C.T dst with
  | some s, some d =>
    match s.k, d.k, x with
    | .int _, .int k, .i _ n => some (.i k (k.wrap n))
    | .string, .string, .s l => some (.s l)
    | .slice e, .string, .ns => match C.T e with | some ⟨.int .u8, _, _, _⟩ => some (.s []) | _ => none
    | .slice e, .string, .sl b o len _ =>
      match C.T e, H.get b with
      | some ⟨.int .u8, _, _, _⟩, some B => if o + len ≤ B.cells.length then (abytes ((B.cells.drop o).take len)).map .s else none
      | _, _ => none
    | _, _, _ => none
  | _, _ => none

def aint : Option AV → Nat → Option Nat
  | none, d => some d
  | some (.i _ n), _ => if 0 ≤ n then some n.toNat else none
  | _, _ => none

def aslice (C : Cfg) (t : TypeId) (x : AV) (lo hi : Option AV) : Option AV :=
  match C.T t with
  | none => none
  | some i =>
    match i.k, x with
    | .string, .s l =>
      match aint lo 0, aint hi l.length with
      | some a, some b => if a ≤ b ∧ b ≤ l.length then some (.s ((l.drop a).take (b - a))) else none
      | _, _ => none
    | .slice e, .ns =>
      match C.T e, aint lo 0, aint hi 0 with
      | some _, some a, some b => if a = 0 ∧ b = 0 then some .ns else none
      | _, _, _ => none
    | .slice e, .sl b o len cap =>
      match C.T e, aint lo 0, aint hi len with
      | some ei, some l, some h =>
        match cap with
        | .kn n => if l ≤ h ∧ h ≤ n then some (.sl b (if n = l then o else o + l * ei.size) (h - l) (.kn (n - l))) else none
        | .op es =>
          if l ≤ h ∧ h ≤ len then
            (if l = len then (if l = 0 then some (.sl b o 0 (.op es)) else some .em)
             else if l = 0 then some (.sl b o h (.op es))
             else if es = ei.size then some (.sl b (o + l * ei.size) (h - l) (.op es)) else none)
          else none
      | _, _, _ => none
    | .arr n e, .p b o =>
      match C.T e, aint lo 0, aint hi n with
      | some ei, some l, some h => if l ≤ h ∧ h ≤ n then some (.sl b (if n = l then o else o + l * ei.size) (h - l) (.kn (n - l))) else none
      | _, _, _ => none
    | _, _ => none

def afield (C : Cfg) (s : TypeId) (x : AV) (f : Nat) : Option AV :=
  match C.T s, x with
  | some ⟨.struct fs, _, _, _⟩, .p b o => match fs[f]? with | some (off, size, _) => if size = 0 then none else some (.p b (o + off)) | none => none
  | _, _ => none

def aidx (C : Cfg) (t : TypeId) (x i : AV) : Option AV :=
  match C.T t, x, i with
  | some ⟨.slice e, _, _, _⟩, .sl b o len _, .i _ n => match C.T e with | some ei => if 0 ≤ n ∧ n < len then some (.p b (o + n.toNat * ei.size)) else none | none => none
  | some ⟨.arr len e, _, _, _⟩, .p b o, .i _ n => match C.T e with | some ei => if 0 ≤ n ∧ n < len then some (.p b (o + n.toNat * ei.size)) else none | none => none
  | _, _, _ => none

def aindex (C : Cfg) (t : TypeId) (x i : AV) : Option AV :=
  match C.T t, x, i with
  | some ⟨.string, _, _, _⟩, .s l, .i _ n => if 0 ≤ n then (match l[n.toNat]? with | some c => some (.i .u8 c.toNat) | none => none) else none
  | some ⟨.arr len e, _, _, _⟩, .ag cs, .i _ n => match C.T e with | some ei => if 0 ≤ n ∧ n < len then apart C e cs (n.toNat * ei.size) else none | none => none
  | _, _, _ => none

def alen : AV → Option AV
  | .s l => some (.i .i64 l.length)
  | .sl _ _ n _ => some (.i .i64 n)
  | .ns => some (.i .i64 0)
  | .em => some (.i .i64 0)
  | _ => none

/-- The length of what has the given kind. -/
def alenT (k : TK) (a : AV) : Option AV :=
  match k, a with
  | .string, .s l => some (.i .i64 l.length)
  | .slice _, .sl _ _ n _ => some (.i .i64 n)
  | .slice _, .ns => some (.i .i64 0)
  | .slice _, .em => some (.i .i64 0)
  | _, _ => none
theorem alenT_s (l : List UInt8) : alenT .string (.s l) = some (.i .i64 l.length) := rfl
theorem alenT_sl (e b o n : Nat) (c : Cap) : alenT (.slice e) (.sl b o n c) = some (.i .i64 n) := rfl
theorem alenT_ns (e : Nat) : alenT (.slice e) .ns = some (.i .i64 0) := rfl
theorem alenT_em (e : Nat) : alenT (.slice e) .em = some (.i .i64 0) := rfl
theorem alenT_alen {k : TK} {a v : AV} (h : alenT k a = some v) : alen a = some v ∧ (k = .string ∧ (∃ l, a = .s l) ∨ (∃ e, k = .slice e) ∧ ∀ l, a ≠ .s l) := by
  unfold alenT at h
  split at h
  · exact ⟨h, .inl ⟨rfl, _, rfl⟩⟩
  · exact ⟨h, .inr ⟨⟨_, rfl⟩, by simp⟩⟩
  · exact ⟨h, .inr ⟨⟨_, rfl⟩, by simp⟩⟩
  · exact ⟨h, .inr ⟨⟨_, rfl⟩, by simp⟩⟩
  · cases h

def amin (lt : Bool) : AV → List AV → Option AV
  | x, [] => some x
  | .i k a, .i k' b :: l => if k = k' then amin lt (.i k (if lt then (if b < a then b else a) else (if b > a then b else a))) l else none
  | _, _ => none

/-- '==' where the operands' kinds are followed: what the type must be. -/
def eqTy (C : Cfg) (t : TypeId) : AV → Bool
  | .np => match C.T t with | some ⟨.ptr _, _, _, _⟩ => true | _ => false
  | .p _ _ => match C.T t with | some ⟨.ptr _, _, _, _⟩ => true | _ => false
  | .ns => match C.T t with | some ⟨.slice _, _, _, _⟩ => true | _ => false
  | .em => match C.T t with | some ⟨.slice _, _, _, _⟩ => true | _ => false
  | .sl _ _ _ _ => match C.T t with | some ⟨.slice _, _, _, _⟩ => true | _ => false
  | .nf => match C.T t with | some ⟨.func, _, _, _⟩ => true | _ => false
  | .fn _ _ _ => match C.T t with | some ⟨.func, _, _, _⟩ => true | _ => false
  | .nm => match C.T t with | some ⟨.map _ _, _, _, _⟩ => true | _ => false
  | .mp _ => match C.T t with | some ⟨.map _ _, _, _, _⟩ => true | _ => false
  | .b _ => match C.T t with | some ⟨.bool, _, _, _⟩ => true | _ => false
  | _ => true

/-- Operations that give a value, and leave the heap. -/
def aval (C : Cfg) (H : Heap) (ρ : Operand → Option AV) (op : Op) : Option AV :=
  match op with
  | .move x => ρ x
  | .assign x => ρ x
  | .pick c a b => match ρ c with | some (.b t) => bif t then ρ a else ρ b | _ => none
  | .build t parts =>
    match C.T t, aparts ρ parts.toList with
    | some i, some ps =>
      match i.k with
      | .struct fs => (afill (fun j => (fs[j]?).map fun x => (x.1, x.2.1)) i.zero ps).map .ag
      | .arr _ e => match C.T e with | some ei => (afill (fun j => some (j * ei.size, ei.size)) i.zero ps).map .ag | none => none
      | _ => none
    | _, _ => none
  | .load t a => match ρ a with | some (.p b o) => aload C H t b o | _ => none
  | .nilCheck x => match ρ x with | some (.p b o) => some (.p b o) | some (.fn (.func f) fi ca) => some (.fn (.func f) fi ca) | _ => none
  | .binOp op t x y _ => match ρ x, ρ y with | some (.ag l), some (.ag m) => aeqA C op t l m | some a, some b => bif isEq op && !eqTy C t a then none else abinop op a b | _, _ => none
  | .unOp op _ x => match ρ x with | some a => aun op a | none => none
  | .convert s d x => match ρ x with | some a => aconv C H s d a | none => none
  | .slice t x lo hi none =>
    match ρ x, (match lo with | none => some none | some l => (ρ l).map some), (match hi with | none => some none | some h => (ρ h).map some) with
    | some a, some l, some h => aslice C t a l h
    | _, _, _ => none
  | .fieldAddr s x f => match ρ x with | some a => afield C s a f | none => none
  | .field t x f =>
    match ρ x, C.T t with
    | some (.ag cs), some ⟨.struct fs, _, _, _⟩ => match fs[f]? with | some (off, _, ft) => apart C ft cs off | none => none
    | _, _ => none
  | .indexAddr t x i => match ρ x, ρ i with | some a, some n => aidx C t a n | _, _ => none
  | .index t x i => match ρ x, ρ i with | some a, some n => aindex C t a n | _, _ => none
  | .extract x i => match ρ x with | some (.tu l) => l[i]? | _ => none
  | .makeFunc f fi ca => match aevs ρ fi.toList, aevs ρ ca.toList with | some x, some y => some (.fn f x y) | _, _ => none
  | .call c =>
    match c.callee with
    | .builtin .len =>
      match aevs ρ c.args.toList, (c.argTypes[0]?).bind C.T with
      | some [a], some i => alenT i.k a
      | _, _ => none
    | .builtin .min => match aevs ρ c.args.toList with | some (a :: l) => amin true a l | _ => none
    | .builtin .max => match aevs ρ c.args.toList with | some (a :: l) => amin false a l | _ => none
    | _ => none
  | _ => none

def aones : List AV → Bool
  | [] => true
  | a :: l => a.one && aones l

/-- Values as they are appended. -/
def anew (C : Cfg) (H : Heap) (t : TypeId) (size : Nat) (x : AV) : Option (Nat × List AV) :=
  match C.T t, x with
  | some ⟨.slice _, _, _, _⟩, .ns => some (0, [])
  | some ⟨.slice _, _, _, _⟩, .em => some (0, [])
  | some ⟨.slice _, _, _, _⟩, .sl b o n _ =>
    match H.get b with
    | some B => if o + n * size ≤ B.cells.length then some (n, (B.cells.drop o).take (n * size)) else none
    | none => none
  | some ⟨.string, _, _, _⟩, .s l => bif Nat.beq size 1 then some (l.length, l.map fun c => .i .u8 c.toNat) else none
  | _, _ => none

def bigCells : Nat := 140737488355328

def aappend (C : Cfg) (H : Heap) (t u : TypeId) (s x : AV) : Option (AV × Heap) :=
  match C.T t with
  | some ⟨.slice e, _, _, _⟩ =>
    match C.T e with
    | none => none
    | some ei =>
      match anew C H u ei.size x with
      | none => none
      | some (n, new) =>
        if ei.zero.length = ei.size ∧ aones new = true then
          match s with
          | .ns =>
            if n = 0 then some (.ns, H)
            else if n ≤ bigCells ∧ n * ei.bytes ≤ bigCells then some (.sl H.next 0 n (.op ei.size), H.alloc ⟨new, true⟩) else none
          | .sl b o len cap =>
            match H.get b with
            | none => none
            | some B =>
              match cap with
              | .kn k =>
                if len + n ≤ k then
                  (if n = 0 then some (.sl b o len (.kn k), H)
                   else if B.wr = true ∧ o + (len + n) * ei.size ≤ B.cells.length then
                    some (.sl b o (len + n) (.kn k), H.set b ⟨B.cells.take (o + len * ei.size) ++ new ++ B.cells.drop (o + len * ei.size + n * ei.size), true⟩)
                   else none)
                else if len + n ≤ bigCells ∧ (len + n) * ei.bytes ≤ bigCells ∧ o + len * ei.size ≤ B.cells.length then
                  some (.sl H.next 0 (len + n) (.op ei.size), H.alloc ⟨(B.cells.drop o).take (len * ei.size) ++ new, true⟩)
                else none
              | .op es =>
                if es = ei.size ∧ o = 0 ∧ B.wr = true ∧ B.cells.length = len * ei.size ∧ len + n ≤ bigCells ∧ (len + n) * ei.bytes ≤ bigCells then
                  some (.sl H.next 0 (len + n) (.op ei.size), H.turn b ⟨B.cells ++ new, true⟩)
                else none
          | _ => none
        else none
  | _ => none

def astore (C : Cfg) (H : Heap) (t : TypeId) (a x : AV) : Option Heap :=
  match C.T t, a with
  | some i, .p b o =>
    match H.get b with
    | some B => if B.wr = true ∧ x.cells.length = i.size ∧ o + i.size ≤ B.cells.length ∧ aones x.cells = true then some (H.set b ⟨B.cells.take o ++ x.cells ++ B.cells.drop (o + i.size), true⟩) else none
    | none => none
  | _, _ => none

def areps : Nat → List AV → List AV
  | 0, _ => []
  | n + 1, l => l ++ areps n l

/-- Operations that make memory. -/
def amake (C : Cfg) (H : Heap) (ρ : Operand → Option AV) (op : Op) : Option (AV × Heap) :=
  match op with
  | .alloc e => match C.T e with | some ei => some (.p H.next 0, H.alloc ⟨ei.zero, true⟩) | none => none
  | .box _ x => match ρ x with | some a => some (.p H.next 0, H.alloc ⟨a.cells, true⟩) | none => none
  | .buildSlice t len parts =>
    match C.T t, aparts ρ parts.toList with
    | some ⟨.slice e, _, _, _⟩, some ps =>
      match C.T e with
      | some ei =>
        if ei.zero.length = ei.size ∧ len * ei.size ≤ 16777216 then
          match afill (fun j => some (j * ei.size, ei.size)) (areps len ei.zero) ps with
          | some l => some (.sl H.next 0 len (.kn len), H.alloc ⟨l, true⟩)
          | none => none
        else none
      | none => none
    | _, _ => none
  | .makeSlice t len cap =>
    match C.T t, ρ len, ρ cap with
    | some ⟨.slice e, _, _, _⟩, some (.i _ l), some (.i _ c) =>
      match C.T e with
      | some ei => if ei.zero.length = ei.size ∧ 0 ≤ l ∧ l ≤ c ∧ c ≤ bigCells ∧ ei.bytes * c ≤ bigCells then some (.sl H.next 0 l.toNat (.kn c.toNat), H.alloc ⟨areps c.toNat ei.zero, true⟩) else none
      | none => none
    | _, _, _ => none
  | .convert src dst x =>
    if src = dst then
      match C.T src, ρ x with
      | some ⟨.slice e, _, _, _⟩, some (.sl b o n c) =>
        match C.T e, H.get b with
        | some ⟨.int .u8, _, _, _⟩, some B => if B.wr = true then some (.sl b o n c, H) else none
        | _, _ => none
      | _, _ => none
    else
      match C.T src, C.T dst, ρ x with
      | some ⟨.string, _, _, _⟩, some ⟨.slice e, _, _, _⟩, some (.s l) =>
        match C.T e with
        | some ⟨.int .u8, _, _, _⟩ => some (.sl H.next 0 l.length (.op 1), H.alloc ⟨l.map fun c => .i .u8 c.toNat, true⟩)
        | _ => none
      | _, _, _ => none
  | .call c =>
    match c.callee with
    | .builtin .append =>
      match aevs ρ c.args.toList, c.argTypes[0]?, c.argTypes[1]? with
      | some [s, x], some t, some u => aappend C H t u s x
      | _, _, _ => none
    | _ => none
  | _ => none

end Go.Abs
namespace Go.Abs
open Go

structure COK (P : Program) (C : Cfg) : Prop where
  T : ∀ t i, C.T t = some i → TIOK P t i
  nG : C.nG ≤ P.globals.size
  E : ∀ t, C.E t = true → flatEq P 9 t = true ∧ P.eqGuardType P.depth t = false

section
variable {P : Program} {C : Cfg} {r : Ren} {H : Heap} {w : World}

theorem run_under {t : TypeId} {d : TypeDesc} (h : P.underlying t = some d) : (underlying t).run P w = .ok d w := run_underlying h w
theorem run_info {t : TypeId} {x : TypeInfo} (h : P.info? t = some x) : (typeInfo t).run P w = .ok x w := by
  simp [typeInfo, h]
theorem run_size {t : TypeId} {i : TI} (hi : TIOK P t i) : (sizeOf t).run P w = .ok i.size w := by
  obtain ⟨x, hx, h1, _⟩ := hi.info
  simp [sizeOf, run_info hx, h1]
theorem run_agg {t : TypeId} {i : TI} (hi : TIOK P t i) : (isAgg t).run P w = .ok i.agg w := by
  obtain ⟨d, hd, hk⟩ := hi.desc
  unfold isAgg
  simp only [Sem.run_bind, run_under hd, Result.andThen_ok]
  unfold TI.agg
  cases hik : i.k <;> simp only [hik, KOK] at hk
  case other => cases d <;> simp_all
  case struct fs => obtain ⟨a, rfl, _⟩ := hk; rfl
  case func => obtain ⟨_, _, _, rfl⟩ := hk; rfl
  all_goals (subst hk; rfl)

theorem VR.cells {a : AV} {v : Value} (h : VR r a v) : VRL r a.cells v.cells.toList := by
  cases a <;> simp only [VR] at h <;> simp only [AV.cells]
  case ag l => obtain ⟨x, rfl, hx⟩ := h; simpa [Value.cells] using hx
  case b => subst h; simp [Value.cells, VRL, VR]
  case i => subst h; simp [Value.cells, VRL, VR]
  case s => subst h; simp [Value.cells, VRL, VR]
  case np => subst h; simp [Value.cells, VRL, VR]
  case ns => subst h; simp [Value.cells, VRL, VR]
  case nf => subst h; simp [Value.cells, VRL, VR]
  case ni => subst h; simp [Value.cells, VRL, VR]
  case nm => subst h; simp [Value.cells, VRL, VR]
  case p => obtain ⟨c, e, h1, rfl⟩ := h; simp only [Value.cells, VRL, VR]; exact ⟨_, _, rfl, ⟨c, e, h1, rfl⟩, rfl⟩
  case mp => obtain ⟨c, e, h1, rfl⟩ := h; simp only [Value.cells, VRL, VR]; exact ⟨_, _, rfl, ⟨c, e, h1, rfl⟩, rfl⟩
  case sl => obtain ⟨c, e, k, h1, rfl, h3⟩ := h; simp only [Value.cells, VRL, VR]; exact ⟨_, _, rfl, ⟨c, e, k, h1, rfl, h3⟩, rfl⟩
  case em => obtain ⟨c, e, rfl⟩ := h; simp only [Value.cells, VRL, VR]; exact ⟨_, _, rfl, ⟨c, e, rfl⟩, rfl⟩
  case fn => obtain ⟨c, e, rfl, h3⟩ := h; simp only [Value.cells, VRL, VR]; exact ⟨_, _, rfl, ⟨c, e, rfl, h3⟩, rfl⟩
  case tu => obtain ⟨c, rfl, h3⟩ := h; simp only [Value.cells, VRL, VR]; exact ⟨_, _, rfl, ⟨c, rfl, h3⟩, rfl⟩
  case ifc => obtain ⟨c, rfl, h3⟩ := h; simp only [Value.cells, VRL, VR]; exact ⟨_, _, rfl, ⟨c, rfl, h3⟩, rfl⟩
  case raw =>
    have hv : v.cells = #[v] := by cases v <;> first | rfl | exact absurd rfl (h _)
    rw [hv]; simp only [VRL, VR]; exact ⟨_, _, rfl, h, rfl⟩

theorem VR.one {a : AV} {v : Value} (h : VR r a v) (ha : a.one = true) : v.oneCell' = true := by
  cases a <;> simp only [VR] at h <;> simp only [AV.one, Bool.false_eq_true] at ha
  all_goals first
    | (subst h; rfl)
    | (obtain ⟨_, _, _, rfl⟩ := h; rfl)
    | (obtain ⟨_, _, rfl⟩ := h; rfl)
    | (obtain ⟨_, rfl, _⟩ := h; rfl)
    | (obtain ⟨_, _, rfl, _⟩ := h; rfl)
    | (obtain ⟨_, _, _, _, rfl, _⟩ := h; rfl)

theorem cAV1_ok {v : Value} {a : AV} (h : cAV1 v = some a) : VR r a v := by
  unfold cAV1 at h
  split at h <;> first | (cases h; simp only [VR]; done) | (cases h; simp [VR]; done) | cases h
theorem cAVs_ok : ∀ {l : List Value} {m : List AV}, cAVs l = some m → VRL r m l
  | [], m, h => by simp only [cAVs, Option.some.injEq] at h; subst h; simp [VRL]
  | v :: l, m, h => by
    simp only [cAVs] at h
    split at h
    · rename_i a m' h1 h2
      cases h
      simp only [VRL]
      exact ⟨v, l, rfl, cAV1_ok h1, cAVs_ok h2⟩
    · cases h
theorem cAV_ok {v : Value} {a : AV} (h : cAV v = some a) : VR r a v := by
  unfold cAV at h
  split at h
  · rename_i cs
    split at h
    · rename_i l hl
      cases h
      simp only [VR]
      exact ⟨cs.toList, by simp, cAVs_ok hl⟩
    · cases h
  · exact cAV1_ok h

/-- A frame's slots. -/
def TMR (r : Ren) (n : Nat) (tm : TM) (t : Array Value) : Prop :=
  t.size = n ∧ ∀ j v, tm.get j = some v → ∃ c, t[j]? = some c ∧ VR r v c

theorem aev_ok (hC : COK P C) (s : Sim P r H w) {n : Nat} {tm : TM} {a : Act} (ht : TMR r n tm a.tmps) {x : Operand} {v : AV} (h : aev C tm x = some v) : VR r v (a.eval x) := by
  cases x with
  | tmp t =>
    obtain ⟨c, h1, h2⟩ := ht.2 t v h
    simpa [Act.eval, Array.getD, Array.getElem?_eq_some_iff, h1] using (by
      have : (a.eval (.tmp t)) = c := by simp [Act.eval, h1]
      rw [this]; exact h2 : VR r v (a.eval (.tmp t)))
  | const u => exact cAV_ok h
  | global g =>
    simp only [aev, Bool.cond_eq_ite] at h
    split at h
    · rename_i hg
      cases h
      have hg' : g < C.nG := by simpa using hg
      obtain ⟨e, he⟩ := s.glb g (Nat.lt_of_lt_of_le hg' hC.nG)
      simp only [VR]
      exact ⟨g, e, he, rfl⟩
    · cases h
  | func f =>
    simp only [aev, Option.some.injEq] at h
    subst h
    simp only [VR, VRL]
    exact ⟨[], [], rfl, rfl, rfl⟩

theorem aevs_ok {ρ : Operand → Option AV} {σ : Operand → Value} (hρ : ∀ x v, ρ x = some v → VR r v (σ x)) : ∀ {l : List Operand} {m : List AV}, aevs ρ l = some m → VRL r m (l.map σ)
  | [], m, h => by simp only [aevs, Option.some.injEq] at h; subst h; simp [VRL]
  | x :: l, m, h => by
    simp only [aevs] at h
    split at h
    · rename_i a m' h1 h2
      cases h
      simp only [List.map_cons, VRL]
      exact ⟨_, _, rfl, hρ _ _ h1, aevs_ok hρ h2⟩
    · cases h
end
end Go.Abs
namespace Go.Abs
open Go
section
variable {P : Program} {C : Cfg} {r : Ren} {H : Heap} {w : World}

theorem VR.int (k : IntKind) (n : Int) : VR r (.i k n) (.int k n) := by simp only [VR]
theorem VR.bool (b : Bool) : VR r (.b b) (.bool b) := by simp only [VR]
theorem VR.str (l : List UInt8) : VR r (.s l) (.string ⟨l.toArray⟩) := by simp only [VR]
theorem BR.cell {B : Blk} {c e : Nat} (h : BR r B c e w) {j : Nat} {v : AV} (hj : B.cells[j]? = some v) : ∃ u, w.cell? ⟨c, j, none⟩ = some u ∧ VR r v u := by
  obtain ⟨cells, el, fz, h1, _, _, x, y, rfl, hv⟩ := h
  obtain ⟨u, h2, h3⟩ := hv.get hj
  refine ⟨u, ?_, h3⟩
  have hl : j < x.length := by
    rcases Nat.lt_or_ge j x.length with h | h
    · exact h
    · rw [List.getElem?_eq_none h] at h2; cases h2
  simp only [World.cell?, h1]
  simp [List.getElem?_append_left hl, h2]

theorem cells_at {B : Blk} {c e : Nat} (h : BR r B c e w) {o n : Nat} (hn : o + n ≤ B.cells.length) :
    ∃ x : List Value, VRL r ((B.cells.drop o).take n) x ∧ x.length = n ∧ ∀ j v, x[j]? = some v → w.cell? ((⟨c, o, none⟩ : Addr).add j) = some v := by
  obtain ⟨cells, el, fz, h1, _, _, x, y, rfl, hv⟩ := h
  have hx := hv.length
  refine ⟨(x.drop o).take n, (hv.drop o).take n, by simp; omega, fun j v hj => ?_⟩
  have hjn : j < n := by
    rcases Nat.lt_or_ge j n with h | h
    · exact h
    · simp [List.getElem?_take, Nat.not_lt.2 h] at hj
  rw [List.getElem?_take_of_lt hjn, List.getElem?_drop] at hj
  have hadd : ((⟨c, o, none⟩ : Addr).add j) = ⟨c, o + j, none⟩ := by
    unfold Addr.add
    by_cases h0 : j = 0
    · simp [h0]
    · simp [h0]
  rw [hadd]
  simp only [World.cell?, h1]
  have hl : o + j < x.length := by omega
  simp [List.getElem?_append_left hl, hj]

theorem run_loadCells_at {B : Blk} {c e : Nat} (h : BR r B c e w) {o n : Nat} (hn : o + n ≤ B.cells.length) :
    ∃ x : List Value, VRL r ((B.cells.drop o).take n) x ∧ (loadCells ⟨c, o, none⟩ n).run P w = .ok x.toArray w := by
  obtain ⟨x, h1, h2, h3⟩ := cells_at h hn
  refine ⟨x, h1, ?_⟩
  have := run_loadCells_list (P := P) w ⟨c, o, none⟩ x h3
  rw [h2] at this
  exact this

theorem aload_ok (hC : COK P C) (s : Sim P r H w) {t : TypeId} {b o : Nat} {v : AV} {u : Value} (hu : VR r (.p b o) u) (h : aload C H t b o = some v) :
    ∃ c, (Instr.loadAt t u).run P w = .ok c w ∧ VR r v c := by
  simp only [VR] at hu
  obtain ⟨c, e, hr, rfl⟩ := hu
  unfold aload at h
  split at h
  · rename_i i B hi hB
    have ti := hC.T t i hi
    have hb := s.blk b B c e hB hr
    simp only [Instr.loadAt, Instr.sureAddr, Sem.run_bind, Sem.run_pure, Result.andThen_ok, loadVar, run_agg ti]
    split at h
    · rename_i ha
      split at h
      · rename_i hn
        cases h
        obtain ⟨x, h1, h2⟩ := run_loadCells_at (P := P) hb hn
        refine ⟨.agg x.toArray, ?_, by simp only [VR]; exact ⟨x, rfl, h1⟩⟩
        simp [ha, run_size ti, h2]
      · cases h
    · rename_i ha
      obtain ⟨x, h1, h2⟩ := hb.cell h
      refine ⟨x, ?_, h2⟩
      simp [ha, h1]
  · cases h

theorem apart_ok (hC : COK P C) {t : TypeId} {cs : List AV} {x : List Value} (hx : VRL r cs x) {off : Nat} {v : AV} (h : apart C t cs off = some v) :
    ∃ c, (part t x.toArray off).run P w = .ok c w ∧ VR r v c := by
  unfold apart at h
  split at h
  · cases h
  · rename_i i hi
    have ti := hC.T t i hi
    simp only [part, Sem.run_bind, run_agg ti, Result.andThen_ok]
    split at h
    · rename_i ha
      cases h
      refine ⟨.agg ((x.drop off).take i.size).toArray, ?_, by simp only [VR]; exact ⟨_, rfl, (hx.drop off).take i.size⟩⟩
      simp [ha, run_size ti]
    · rename_i ha
      obtain ⟨c, h1, h2⟩ := hx.get h
      exact ⟨c, by simp [ha, h1], h2⟩

theorem abin_ok {op : BinOp} {k : IntKind} {a b : Int} {t : TypeId} {v : AV} (hs : op ≠ .shl ∧ op ≠ .shr) (h : abin op k a b = some v) :
    ∃ c, (binOp op t (.int k a) (.int k b)).run P w = .ok c w ∧ VR r v c := by
  cases op <;> simp only [abin] at h
  case quo =>
    split at h
    · cases h
    · rename_i hb; cases h
      exact ⟨_, by simp [binOp, Op.intDiv, hb], VR.int _ _⟩
  case rem =>
    split at h
    · cases h
    · rename_i hb; cases h
      exact ⟨_, by simp [binOp, Op.intDiv, hb], VR.int _ _⟩
  case shl => exact absurd rfl hs.1
  case shr => exact absurd rfl hs.2
  all_goals first
    | (cases h; exact ⟨_, by simp [binOp, Op.intArith, Op.intBits, Op.intCmp], VR.int _ _⟩)
    | (cases h; exact ⟨_, by simp [binOp, Op.intArith, Op.intBits, Op.intCmp], VR.bool _⟩)
    | (cases h)

theorem astr_ok {op : BinOp} {a b : List UInt8} {t : TypeId} {v : AV} (h : astr op a b = some v) :
    ∃ c, (binOp op t (.string ⟨a.toArray⟩) (.string ⟨b.toArray⟩)).run P w = .ok c w ∧ VR r v c := by
  cases op <;> simp only [astr] at h
  case add =>
    split at h
    · rename_i hl; cases h
      refine ⟨.string ⟨(a ++ b).toArray⟩, ?_, by simp only [VR]⟩
      rw [show binOp .add t (.string ⟨a.toArray⟩) (.string ⟨b.toArray⟩) = Op.stringOp .add ⟨a.toArray⟩ ⟨b.toArray⟩ by simp [binOp]]
      rw [run_string_add_sum w _ _ (by simpa [ByteArray.size] using hl), ByteArray.mk_append_mk]
    · cases h
  all_goals first
    | (cases h; exact ⟨_, by simp [binOp, Op.stringOp], VR.bool _⟩)
    | (cases h)

theorem aun_ok {op : UnOp} {x v : AV} {u : Value} (hu : VR r x u) (h : aun op x = some v) : ∃ c, (Op.unary op u).run P w = .ok c w ∧ VR r v c := by
  unfold aun at h
  split at h
  · simp only [VR] at hu; subst hu; cases h; exact ⟨_, by simp [Op.unary], VR.bool _⟩
  · simp only [VR] at hu; subst hu; cases h; exact ⟨_, by simp [Op.unary, Op.intArith], VR.int _ _⟩
  · simp only [VR] at hu; subst hu; cases h; exact ⟨_, by simp [Op.unary, Op.intBits], VR.int _ _⟩
  · cases h

theorem afill_ok {pl : Nat → Option (Nat × Nat)} : ∀ {ps : List (Nat × AV)} {qs : List (Nat × Value)} {cells : List AV} {x : List Value} {l : List AV},
    qs.map (·.1) = ps.map (·.1) → VRL r (ps.map (·.2)) (qs.map (·.2)) → VRL r cells x → afill pl cells ps = some l →
    ∃ y : List Value, Instr.fill pl x.toArray qs = some y.toArray ∧ VRL r l y
  | [], qs, cells, x, l, hk, _, hx, h => by
    cases qs with
    | nil => simp only [afill, Option.some.injEq] at h; subst h; exact ⟨x, rfl, hx⟩
    | cons q qs => simp at hk
  | (i, a) :: ps, qs, cells, x, l, hk, hv, hx, h => by
    cases qs with
    | nil => simp at hk
    | cons q qs =>
      obtain ⟨i', u⟩ := q
      simp only [List.map_cons, List.cons.injEq] at hk
      obtain ⟨hi, hk⟩ := hk
      subst hi
      simp only [List.map_cons, VRL] at hv
      obtain ⟨c, y, hcy, hau, hv⟩ := hv
      simp only [List.cons.injEq] at hcy
      obtain ⟨rfl, rfl⟩ := hcy
      simp only [afill] at h
      cases hp : pl i' with
      | none => rw [hp] at h; cases h
      | some os =>
        obtain ⟨off, size⟩ := os
        rw [hp] at h
        simp only at h
        split at h
        · rename_i hc
          obtain ⟨hc1, hc2⟩ := hc
          have hcs := hau.cells
          have hlen : u.cells.size = a.cells.length := by have := hcs.length; simpa using this
          have hxl := hx.length
          have key : (u.cells.zipIdx.foldl (fun cs (c, j) => cs.setIfInBounds (off + j) c) x.toArray) = (x.take off ++ u.cells.toList ++ x.drop (off + size)).toArray := by
            have gen : ∀ (l : List Value) (k : Nat) (z : List Value), off + k + l.length ≤ z.length →
                (l.zipIdx k).foldl (fun cs (p : Value × Nat) => cs.setIfInBounds (off + p.2) p.1) z.toArray = (z.take (off + k) ++ l ++ z.drop (off + k + l.length)).toArray := by
              intro l
              induction l with
              | nil => intro k z _; simp
              | cons d l ih =>
                intro k z hz
                simp only [List.zipIdx_cons, List.foldl_cons]
                rw [List.setIfInBounds_toArray, ih (k + 1) (z.set (off + k) d) (by simp at hz ⊢; omega)]
                congr 1
                simp only [List.length_cons] at hz ⊢
                apply List.ext_getElem?
                intro n
                simp only [List.getElem?_append, List.length_append, List.length_take, List.length_set, List.getElem?_take, List.getElem?_drop, List.getElem?_set, List.length_cons, List.getElem?_cons]
                grind
            have := gen u.cells.toList 0 x (by simp; omega)
            rw [← Array.foldl_toList]
            simp only [Nat.add_zero] at this
            rw [Array.toList_zipIdx]
            rw [this]
            simp [hlen, hc1]
          obtain ⟨y, hy1, hy2⟩ := afill_ok (qs := qs) (x := x.take off ++ u.cells.toList ++ x.drop (off + size)) hk hv (((hx.take off).append hcs).append (hx.drop _)) h
          refine ⟨y, ?_, hy2⟩
          simp only [Instr.fill, hp]
          rw [if_neg (by simp [hlen, hc1]; omega), key]
          exact hy1
        · cases h
end
end Go.Abs
namespace Go.Abs
open Go
section
variable {P : Program} {C : Cfg} {r : Ren} {H : Heap} {w : World}

theorem eqGuard_plain (op : BinOp) (t : TypeId) (x y : Operand) {a : AV} {u v : Value} (ha : VR r a u) (h1 : ∀ l, a ≠ .ag l) (h2 : a ≠ .ni) (h3 : a ≠ .raw) :
    (eqGuard op t x y u v).run P w = .ok () w := by
  unfold eqGuard
  by_cases hop : (op matches .eql | .neq) = true
  · cases a <;> simp only [VR] at ha
    case ag l => exact absurd rfl (h1 l)
    case ni => exact absurd rfl h2
    case raw => exact absurd rfl h3
    all_goals first
      | (subst ha; simp [hop]; done)
      | (obtain ⟨_, _, _, _, rfl, _⟩ := ha; simp [hop]; done)
      | (obtain ⟨_, _, rfl, _⟩ := ha; simp [hop]; done)
      | (obtain ⟨_, _, _, rfl⟩ := ha; simp [hop]; done)
      | (obtain ⟨_, _, rfl⟩ := ha; simp [hop]; done)
      | (obtain ⟨_, rfl, _⟩ := ha; simp [hop]; done)
  · cases op <;> simp at hop ⊢

theorem aeq1_ok (hC : COK P C) {t : TypeId} {a b : AV} {u v : Value} (ha : VR r a u) (hb : VR r b v) {x : Bool} (h : aeq1 a b = some x)
    (hn : ∀ k n, a ≠ .i k n) (hs : ∀ l, a ≠ .s l) (ht : eqTy C t a = true) : (Op.equal t u v).run P w = .ok x w := by
  show (Op.equalIn (9999 + 1) t u v).run P w = _
  generalize 9999 = dd
  have key : ∀ i, C.T t = some i → ∃ d, P.underlying t = some d ∧ KOK P d i.k := fun i hi => (hC.T t i hi).desc
  cases a <;> cases b <;> simp only [aeq1] at h <;> simp only [VR] at ha hb
  case i.i => exact absurd rfl (hn _ _)
  case s.s => exact absurd rfl (hs _)
  all_goals first | (cases h; done) | skip
  all_goals
    simp only [eqTy] at ht
    split at ht <;> first | (cases ht; done) | skip
    rename_i hT
    obtain ⟨d, hd, hk⟩ := key _ hT
    simp only [KOK] at hk
  all_goals
    first
      | (obtain ⟨_, _, _, rfl⟩ := hk; obtain ⟨_, _, rfl, _⟩ := ha; subst hb; cases h; simp [Op.equalIn, run_under hd]; done)
      | (obtain ⟨_, _, _, rfl⟩ := hk; obtain ⟨_, _, rfl, _⟩ := hb; subst ha; cases h; simp [Op.equalIn, run_under hd]; done)
      | (obtain ⟨_, _, _, rfl⟩ := hk; subst ha hb; cases h; simp [Op.equalIn, run_under hd]; done)
      | skip
  all_goals subst hk
  all_goals
    first
      | (subst ha hb; cases h; simp [Op.equalIn, run_under hd]; done)
      | (obtain ⟨_, _, rfl⟩ := ha; subst hb; cases h; simp [Op.equalIn, run_under hd]; done)
      | (obtain ⟨_, _, rfl⟩ := hb; subst ha; cases h; simp [Op.equalIn, run_under hd]; done)
      | (obtain ⟨_, _, _, rfl⟩ := ha; subst hb; cases h; simp [Op.equalIn, run_under hd]; done)
      | (obtain ⟨_, _, _, rfl⟩ := hb; subst ha; cases h; simp [Op.equalIn, run_under hd]; done)
      | (obtain ⟨_, _, _, _, rfl, _⟩ := ha; subst hb; cases h; simp [Op.equalIn, run_under hd]; done)
      | (obtain ⟨_, _, _, _, rfl, _⟩ := hb; subst ha; cases h; simp [Op.equalIn, run_under hd]; done)

theorem binOp_eql_run {t : TypeId} {u v : Value} (h1 : ∀ k n, u ≠ .int k n) (h2 : ∀ l, u ≠ .string l) (h3 : ∀ k n, u ≠ .float k n) (h4 : ∀ k n m, u ≠ .complex k n m) {x : Bool}
    (h : (Op.equal t u v).run P w = .ok x w) : (binOp .eql t u v).run P w = .ok (.bool x) w ∧ (binOp .neq t u v).run P w = .ok (.bool !x) w := by
  cases u
  case int => exact absurd rfl (h1 _ _)
  case string => exact absurd rfl (h2 _)
  case float => exact absurd rfl (h3 _ _)
  case complex => exact absurd rfl (h4 _ _ _)
  all_goals (constructor <;> simp [binOp, h])

theorem abinop_ok (hC : COK P C) {op : BinOp} {t : TypeId} {x y : Operand} {a b v : AV} {p q : Value} (ha : VR r a p) (hb : VR r b q) (h : abinop op a b = some v)
    (ht : isEq op = true → eqTy C t a = true) :
    ∃ c, (do eqGuard op t x y p q; binOp op t p q : Sem Value).run P w = .ok c w ∧ VR r v c := by
  have hg : (∀ l, a ≠ .ag l) → a ≠ .ni → a ≠ .raw → ∀ c, (binOp op t p q).run P w = .ok c w → VR r v c → ∃ c, (do eqGuard op t x y p q; binOp op t p q : Sem Value).run P w = .ok c w ∧ VR r v c := by
    intro h1 h2 h3 c hc hv
    refine ⟨c, ?_, hv⟩
    simp only [Sem.run_bind, eqGuard_plain (P := P) (w := w) op t x y ha h1 h2 h3, Result.andThen_ok, hc]
  unfold abinop at h
  split at h
  · rename_i k n k' m
    simp only [VR] at ha hb; subst ha hb
    unfold aints at h
    split at h
    · split at h
      · cases h
      · rename_i hm; cases h
        exact hg (by simp) (by simp) (by simp) _ (by simp [binOp, Op.shift, hm]) (VR.int _ _)
    · split at h
      · cases h
      · rename_i hm; cases h
        exact hg (by simp) (by simp) (by simp) _ (by simp [binOp, Op.shift, hm]) (VR.int _ _)
    · rename_i h1 h2
      split at h
      · rename_i hk; subst hk
        obtain ⟨c, hc, hv⟩ := abin_ok (P := P) (r := r) (w := w) (t := t) ⟨fun e => h1 e, fun e => h2 e⟩ h
        exact hg (by simp) (by simp) (by simp) c hc hv
      · cases h
  · rename_i l m
    simp only [VR] at ha hb; subst ha hb
    obtain ⟨c, hc, hv⟩ := astr_ok (P := P) (r := r) (w := w) (t := t) h
    exact hg (by simp) (by simp) (by simp) c hc hv
  · rename_i hni hns
    have fin : ∀ z, aeq1 a b = some z → isEq op = true → (binOp .eql t p q).run P w = .ok (.bool z) w ∧ (binOp .neq t p q).run P w = .ok (.bool !z) w := by
      intro z hz hop
      have e1 : ∀ k n, a ≠ .i k n := by
        rintro k n rfl
        cases b <;> simp [aeq1] at hz
        exact hni _ _ _ _ rfl rfl
      have e2 : ∀ l, a ≠ .s l := by
        rintro l rfl
        cases b <;> simp [aeq1] at hz
        exact hns _ _ rfl rfl
      refine binOp_eql_run ?_ ?_ ?_ ?_ (aeq1_ok hC ha hb hz e1 e2 (ht hop))
      all_goals
        intro _
        cases a <;> simp only [VR] at ha
        case raw => simp [aeq1] at hz
        all_goals first
          | exact absurd rfl (e1 _ _)
          | exact absurd rfl (e2 _)
          | (subst ha; simp; done)
          | (obtain ⟨_, _, _, _, rfl, _⟩ := ha; simp; done)
          | (obtain ⟨_, _, rfl, _⟩ := ha; simp; done)
          | (obtain ⟨_, _, _, rfl⟩ := ha; simp; done)
          | (obtain ⟨_, _, rfl⟩ := ha; simp; done)
          | (obtain ⟨_, rfl, _⟩ := ha; simp; done)
    have ne1 : ∀ z, aeq1 a b = some z → (∀ l, a ≠ .ag l) ∧ a ≠ .ni ∧ a ≠ .raw := by
      intro z hz
      refine ⟨?_, ?_, ?_⟩
      · rintro l rfl; simp [aeq1] at hz
      · rintro rfl; simp [aeq1] at hz
      · rintro rfl; simp [aeq1] at hz
    unfold aoth at h
    split at h
    · cases hz : aeq1 a b with
      | none => rw [hz] at h; cases h
      | some z => rw [hz] at h; cases h; exact hg (ne1 z hz).1 (ne1 z hz).2.1 (ne1 z hz).2.2 _ (fin z hz rfl).1 (VR.bool _)
    · cases hz : aeq1 a b with
      | none => rw [hz] at h; cases h
      | some z => rw [hz] at h; cases h; exact hg (ne1 z hz).1 (ne1 z hz).2.1 (ne1 z hz).2.2 _ (fin z hz rfl).2 (VR.bool _)
    · cases h
end
end Go.Abs
namespace Go.Abs
open Go
section
variable {P : Program} {C : Cfg} {r : Ren} {H : Heap} {w : World}
theorem aeqFs_ok (hC : COK P C) {n dd : Nat} (F : TypeId → AV → AV → Option Bool)
    (hF : ∀ t a b z u v, F t a b = some z → flatEq P n t = true → VR r a u → VR r b v → (Op.equalIn dd t u v).run P w = .ok z w)
    {xs ys : List Value} {l m : List AV} (hx : VRL r l xs) (hy : VRL r m ys) :
    ∀ (fs : List Field) (g : List (Nat × Nat × TypeId)) (z : Bool), fs.map (fun f => (f.offset, f.type)) = g.map (fun x => (x.1, x.2.2)) → (fs.all fun f => f.name != "_" && flatEq P n f.type) = true →
    aeqFs C F g l m = some z → (Op.eqFields dd xs.toArray ys.toArray fs).run P w = .ok z w
  | [], g, z, h1, h2, h => by
    cases g with
    | nil => cases h; simp [Op.eqFields]
    | cons => simp at h1
  | f :: fs, g, z, h1, h2, h => by
    cases g with
    | nil => simp at h1
    | cons y g =>
      obtain ⟨off, sz, ty⟩ := y
      simp only [List.map_cons, List.cons.injEq, Prod.mk.injEq] at h1
      obtain ⟨⟨rfl, rfl⟩, h1⟩ := h1
      simp only [List.all_cons, Bool.and_eq_true, bne_iff_ne, ne_eq] at h2
      obtain ⟨⟨hn, hfl⟩, h2⟩ := h2
      simp only [aeqFs] at h
      split at h
      · rename_i a b ha hb
        split at h
        · rename_i x y hfx hfy
          cases h
          obtain ⟨u, hu, hau⟩ := apart_ok (P := P) (w := w) hC hx ha
          obtain ⟨v, hv, hbv⟩ := apart_ok (P := P) (w := w) hC hy hb
          have he := hF _ _ _ _ _ _ hfx hfl hau hbv
          have ih := aeqFs_ok hC F hF hx hy fs g y h1 (by simpa using h2) hfy
          simp only [Op.eqFields, ne_eq, hn, not_false_eq_true, if_true, Sem.run_bind, hu, hv, he, Result.andThen_ok]
          cases x
          · simp
          · simpa using ih
        · cases h
      · cases h
theorem aeqIs_ok (hC : COK P C) {dd : Nat} {e : TypeId} {sz : Nat} (F : AV → AV → Option Bool)
    (hF : ∀ a b z u v, F a b = some z → VR r a u → VR r b v → (Op.equalIn dd e u v).run P w = .ok z w)
    {xs ys : List Value} {l m : List AV} (hx : VRL r l xs) (hy : VRL r m ys) :
    ∀ (is : List Nat) (z : Bool), aeqIs C F e sz is l m = some z → (Op.eqItems dd e sz xs.toArray ys.toArray is).run P w = .ok z w
  | [], z, h => by cases h; simp [Op.eqItems]
  | i :: is, z, h => by
    simp only [aeqIs] at h
    split at h
    · rename_i a b ha hb
      split at h
      · rename_i x y hfx hfy
        cases h
        obtain ⟨u, hu, hau⟩ := apart_ok (P := P) (w := w) hC hx ha
        obtain ⟨v, hv, hbv⟩ := apart_ok (P := P) (w := w) hC hy hb
        have he := hF _ _ _ _ _ hfx hau hbv
        have ih := aeqIs_ok hC F hF hx hy is y hfy
        simp only [Op.eqItems, Sem.run_bind, hu, hv, he, Result.andThen_ok]
        cases x
        · simp
        · simpa using ih
      · cases h
    · cases h
theorem aeqV_ok (hC : COK P C) : ∀ (n k : Nat) (t : TypeId) (a b : AV) (z : Bool) (u v : Value), aeqV C n t a b = some z → flatEq P n t = true → VR r a u → VR r b v → (Op.equalIn (n + k) t u v).run P w = .ok z w
  | 0, _, _, _, _, _, _, _, h, _, _, _ => by cases h
  | n + 1, k, t, a, b, z, u, v, h, hf, ha, hb => by
    rw [show n + 1 + k = (n + k) + 1 by omega]
    simp only [aeqV] at h
    simp only [flatEq] at hf
    split at h
    · rename_i fs _ _ _ l m hT
      obtain ⟨d, hd, arr, rfl, h1, _⟩ := (hC.T t _ hT).desc
      rw [hd] at hf
      simp only [Bool.and_eq_true, Bool.not_eq_true'] at hf
      simp only [VR] at ha hb
      obtain ⟨xs, rfl, hx⟩ := ha
      obtain ⟨ys, rfl, hy⟩ := hb
      have hfo : P.fieldsOf t = arr := by simp [Program.fieldsOf, hd]
      rw [run_equalIn_struct w (n + k) t _ _ (by rw [hfo]; exact hd) hf.1, hfo]
      exact aeqFs_ok hC _ (fun t a b z u v h1 h2 h3 h4 => aeqV_ok hC n k t a b z u v h1 h2 h3 h4) hx hy _ _ _ h1 hf.2 h
    · rename_i len e _ _ _ l m hT
      obtain ⟨d, hd, hk⟩ := (hC.T t _ hT).desc
      simp only [KOK] at hk; subst hk
      rw [hd] at hf
      simp only at hf
      split at h
      · rename_i ei hE
        simp only [VR] at ha hb
        obtain ⟨xs, rfl, hx⟩ := ha
        obtain ⟨ys, rfl, hy⟩ := hb
        obtain ⟨x, hx1, hx2, _⟩ := (hC.T e ei hE).info
        have hsz : P.cellsOf e = ei.size := by simp [Program.cellsOf, hx1, hx2]
        rw [run_equalIn_array w (n + k) _ _ hd hx1, hsz]
        exact aeqIs_ok hC _ (fun a b z u v h1 h3 h4 => aeqV_ok hC n k e a b z u v h1 hf h3 h4) hx hy _ _ h
      · cases h
    · rename_i hT
      obtain ⟨d, hd, hk⟩ := (hC.T t _ hT).desc
      simp only [KOK] at hk; subst hk
      simp only [VR] at ha hb; subst ha hb
      split at h
      · rename_i hk; subst hk; cases h
        simp [Op.equalIn, run_under hd]
      · cases h
    · rename_i hT
      obtain ⟨d, hd, hk⟩ := (hC.T t _ hT).desc
      simp only [KOK] at hk; subst hk
      simp only [VR] at ha hb; subst ha hb
      cases h
      simp [Op.equalIn, run_under hd]
    · rename_i hT
      obtain ⟨d, hd, hk⟩ := (hC.T t _ hT).desc
      simp only [KOK] at hk; subst hk
      simp only [VR] at ha hb; subst ha hb
      cases h
      simp only [Op.equalIn, Sem.run_bind, run_under hd, Result.andThen_ok, Sem.run_pure]
      congr 1
      show ((⟨_⟩ : Array UInt8) == ⟨_⟩) = _
      simp
    · cases h
theorem aeqA_ok (hC : COK P C) {op : BinOp} {t : TypeId} {x y : Operand} {l m : List AV} {v : AV} {p q : Value} (ha : VR r (.ag l) p) (hb : VR r (.ag m) q) (h : aeqA C op t l m = some v) :
    ∃ c, (do eqGuard op t x y p q; binOp op t p q : Sem Value).run P w = .ok c w ∧ VR r v c := by
  unfold aeqA at h
  simp only [Bool.cond_eq_ite] at h
  split at h
  · rename_i hE
    obtain ⟨h1, h2⟩ := hC.E t hE
    have key : ∀ z, aeqV C 9 t (.ag l) (.ag m) = some z → (Op.equal t p q).run P w = .ok z w := fun z hz => aeqV_ok (r := r) hC 9 9991 t _ _ z p q hz h1 ha hb
    simp only [VR] at ha hb
    obtain ⟨xs, rfl, hx⟩ := ha
    obtain ⟨ys, rfl, hy⟩ := hb
    have hg : ∀ op, (eqGuard op t x y (.agg xs.toArray) (.agg ys.toArray)).run P w = .ok () w := by
      intro op
      cases op <;> simp [eqGuard, h2]
    split at h
    · cases hz : aeqV C 9 t (.ag l) (.ag m) with
      | none => rw [hz] at h; cases h
      | some z =>
        rw [hz] at h; cases h
        exact ⟨.bool z, by simp only [Sem.run_bind, hg, Result.andThen_ok]; simp [binOp, key z hz], VR.bool z⟩
    · cases hz : aeqV C 9 t (.ag l) (.ag m) with
      | none => rw [hz] at h; cases h
      | some z =>
        rw [hz] at h; cases h
        exact ⟨.bool !z, by simp only [Sem.run_bind, hg, Result.andThen_ok]; simp [binOp, key z hz], VR.bool _⟩
    · cases h
  · cases h
end
end Go.Abs
namespace Go.Abs
open Go
section
variable {P : Program} {C : Cfg} {r : Ren} {H : Heap} {w : World}

theorem desc_of (hC : COK P C) {t : TypeId} {i : TI} (h : C.T t = some i) : ∃ d, P.underlying t = some d ∧ KOK P d i.k := (hC.T t i h).desc

theorem abytes_ok : ∀ {l : List AV} {x : List Value} {m : List UInt8}, VRL r l x → abytes l = some m →
    ∃ ns : List Int, x = ns.map (Value.int .u8) ∧ m = ns.map fun n => UInt8.ofNat n.toNat
  | [], x, m, hx, h => by
    simp only [abytes, Option.some.injEq] at h; simp only [VRL] at hx; subst h hx; exact ⟨[], rfl, rfl⟩
  | a :: l, x, m, hx, h => by
    simp only [VRL] at hx
    obtain ⟨c, y, rfl, h1, h2⟩ := hx
    unfold abytes at h
    split at h
    · cases ‹_ :: _ = []›
    · rename_i n l' heq
      cases heq
      split at h
      · rename_i m' hm
        cases h
        obtain ⟨ns, rfl, rfl⟩ := abytes_ok h2 hm
        simp only [VR] at h1; subst h1
        exact ⟨n :: ns, rfl, rfl⟩
      · cases h
    · cases h

theorem aconv_ok (hC : COK P C) (s : Sim P r H w) {src dst : TypeId} {x v : AV} {u : Value} (hu : VR r x u) (h : aconv C H src dst x = some v) :
    ∃ c, (convert src dst u).run P w = .ok c w ∧ VR r v c := by
  unfold aconv at h
  split at h
  · rename_i si di hs hd
    obtain ⟨d1, hd1, hk1⟩ := desc_of hC hs
    obtain ⟨d2, hd2, hk2⟩ := desc_of hC hd
    split at h
    · rename_i e1 e2
      rw [e1] at hk1; rw [e2] at hk2; simp only [KOK] at hk1 hk2; subst hk1 hk2
      simp only [VR] at hu; subst hu; cases h
      exact ⟨_, by simp [convert, run_under hd1, run_under hd2, Conv.intToInt], VR.int _ _⟩
    · rename_i e1 e2
      rw [e1] at hk1; rw [e2] at hk2; simp only [KOK] at hk1 hk2; subst hk1 hk2
      simp only [VR] at hu; subst hu; cases h
      exact ⟨_, by simp [convert, run_under hd1, run_under hd2], VR.str _⟩
    · rename_i e1 e2
      rw [e1] at hk1; rw [e2] at hk2; simp only [KOK] at hk1 hk2; subst hk1 hk2
      split at h
      · rename_i he
        obtain ⟨d3, hd3, hk3⟩ := desc_of hC he
        simp only [KOK] at hk3; subst hk3
        simp only [VR] at hu; subst hu; cases h
        exact ⟨.string .empty, by simp [convert, run_under hd1, run_under hd2, run_under hd3, Conv.bytesToString], by simp only [VR]; rfl⟩
      · cases h
    · rename_i e1 e2
      rw [e1] at hk1; rw [e2] at hk2; simp only [KOK] at hk1 hk2; subst hk1 hk2
      split at h
      · rename_i B he hb
        obtain ⟨d3, hd3, hk3⟩ := desc_of hC he
        simp only [KOK] at hk3; subst hk3
        split at h
        · rename_i hn
          simp only [VR] at hu
          obtain ⟨c, e, k, hr, rfl, _⟩ := hu
          obtain ⟨y, hy1, hy2⟩ := run_loadCells_at (P := P) (s.blk _ _ c e hb hr) hn
          cases hm : abytes ((B.cells.drop _).take _) with
          | none => rw [hm] at h; cases h
          | some m =>
            rw [hm] at h; cases h
            obtain ⟨ns, rfl, rfl⟩ := abytes_ok hy1 hm
            refine ⟨_, ?_, VR.str _⟩
            rw [run_convert_bytes_string w src dst _ _ _ _ hd1 hd3 hd2, run_bytesToString w _ _ _ ns hy2, foldl_push_bytes]
            show Result.ok (Value.string ⟨#[] ++ _⟩) w = _
            rw [Array.empty_append]
        · cases h
      · cases h
    · cases h
  · cases h

theorem aint_ok {x : Option AV} {u : Option Value} (hu : ∀ a, x = some a → ∃ c, u = some c ∧ VR r a c) (hn : x = none → u = none) {d n : Nat} (h : aint x d = some n) :
    (u = none ∧ n = d) ∨ ∃ k m, u = some (.int k m) ∧ 0 ≤ m ∧ n = m.toNat := by
  cases x with
  | none => simp only [aint, Option.some.injEq] at h; exact .inl ⟨hn rfl, h.symm⟩
  | some a =>
    obtain ⟨c, rfl, hv⟩ := hu a rfl
    cases a <;> simp only [aint] at h <;> try cases h
    simp only [VR] at hv; subst hv
    split at h
    · rename_i h0; cases h; exact .inr ⟨_, _, rfl, h0, rfl⟩
    · cases h

theorem bounds_run (isS : Bool) (len cap : Nat) {lo hi : Option Value} {l h : Nat} (hl : (lo = none ∧ l = 0) ∨ ∃ k m, lo = some (.int k m) ∧ 0 ≤ m ∧ l = m.toNat)
    (hh : (hi = none ∧ h = len) ∨ ∃ k m, hi = some (.int k m) ∧ 0 ≤ m ∧ h = m.toNat) (h1 : l ≤ h) (h2 : h ≤ cap) :
    (Instr.sliceBounds isS len cap lo hi none).run P w = .ok (l, h, cap) w := by
  rcases hh with ⟨rfl, rfl⟩ | ⟨k, m, rfl, hm, rfl⟩ <;> rcases hl with ⟨rfl, rfl⟩ | ⟨k', m', rfl, hm', rfl⟩
  · simp [Instr.sliceBounds]
  · have a1 : m' ≤ (h : Int) := by omega
    simp [Instr.sliceBounds, Instr.sliceBound, asIntOf, hm', a1]
  · have a1 : m ≤ (cap : Int) := by omega
    simp [Instr.sliceBounds, Instr.sliceBound, asIntOf, hm, a1]
  · have a1 : m ≤ (cap : Int) := by omega
    have a2 : m' ≤ m := by omega
    have a3 : max m 0 = m := by omega
    simp [Instr.sliceBounds, Instr.sliceBound, asIntOf, hm, hm', a1, a2, a3]

theorem addr_add (c o n : Nat) : (⟨c, o, none⟩ : Addr).add n = ⟨c, o + n, none⟩ := by
  unfold Addr.add
  by_cases h0 : n = 0 <;> simp [h0]

theorem extract_list (l : List UInt8) (a b : Nat) : (ByteArray.mk l.toArray).extract a b = ⟨((l.drop a).take (b - a)).toArray⟩ := by
  apply ByteArray.ext
  simp [ByteArray.data_extract]

theorem aslice_ok (hC : COK P C) {t : TypeId} {x v : AV} {u : Value} (hu : VR r x u) {lo hi : Option AV} {ul uh : Option Value}
    (hl : ∀ a, lo = some a → ∃ c, ul = some c ∧ VR r a c) (hl0 : lo = none → ul = none) (hh : ∀ a, hi = some a → ∃ c, uh = some c ∧ VR r a c) (hh0 : hi = none → uh = none)
    (h : aslice C t x lo hi = some v) : ∃ c, (Instr.sliceAt t u ul uh none).run P w = .ok c w ∧ VR r v c := by
  unfold aslice at h
  split at h
  · cases h
  · rename_i i hi'
    obtain ⟨d, hd, hk⟩ := desc_of hC hi'
    split at h
    · rename_i e1
      rw [e1] at hk; simp only [KOK] at hk; subst hk
      simp only [VR] at hu; subst hu
      split at h
      · rename_i a b h1 h2
        split at h
        · rename_i hab
          cases h
          have b1 := aint_ok hl hl0 h1
          have b2 := aint_ok hh hh0 h2
          refine ⟨_, ?_, VR.str _⟩
          have := bounds_run (P := P) (w := w) false _ _ b1 b2 hab.1 hab.2
          simp only [Instr.sliceAt, Instr.slice, run_under hd, Sem.run_bind, Result.andThen_ok, Option.isSome_none, Bool.false_eq_true, if_false, ByteArray.size, List.size_toArray, Sem.run_pure, this, extract_list]
        · cases h
      · cases h
    · rename_i e1
      rw [e1] at hk; simp only [KOK] at hk; subst hk
      simp only [VR] at hu; subst hu
      split at h
      · rename_i ei a b he h1 h2
        split at h
        · rename_i hab
          obtain ⟨rfl, rfl⟩ := hab
          cases h
          have b1 := aint_ok hl hl0 h1
          have b2 := aint_ok hh hh0 h2
          have ts := run_size (P := P) (w := w) (hC.T _ ei he)
          have := bounds_run (P := P) (w := w) true 0 0 b1 b2 (Nat.le_refl _) (Nat.le_refl _)
          refine ⟨.slice none 0 0, ?_, by simp only [VR]⟩
          simp only [Instr.sliceAt, Instr.slice, run_under hd, Sem.run_bind, Result.andThen_ok, this, ts, Sem.run_pure, if_true]
        · cases h
      · cases h
    · rename_i e b o len cap e1
      rw [e1] at hk; simp only [KOK] at hk; subst hk
      simp only [VR] at hu
      obtain ⟨c, ext, k, hr, rfl, hcap⟩ := hu
      split at h
      · rename_i ei l h' he h1 h2
        have b1 := aint_ok hl hl0 h1
        have b2 := aint_ok hh hh0 h2
        have ts := run_size (P := P) (w := w) (hC.T e ei he)
        have run : l ≤ h' → h' ≤ k → (Instr.sliceAt t (.slice (some ⟨c, o, none⟩) len k) ul uh none).run P w =
            .ok (.slice (some ⟨c, if k = l then o else o + l * ei.size, none⟩) (h' - l) (k - l)) w := by
          intro q1 q2
          have := bounds_run (P := P) (w := w) true len k b1 b2 q1 q2
          simp only [Instr.sliceAt, Instr.slice, run_under hd, Sem.run_bind, Result.andThen_ok, this, ts, Sem.run_pure, Option.map_some, addr_add]
          split <;> rfl
        split at h
        · rename_i n
          simp only at hcap; subst hcap
          split at h
          · rename_i hc
            cases h
            refine ⟨_, run hc.1 hc.2, ?_⟩
            simp only [VR]
            exact ⟨c, ext, _, hr, rfl, rfl⟩
          · cases h
        · rename_i es
          simp only at hcap
          obtain ⟨hcap1, hcap2⟩ := hcap
          split at h
          · rename_i hc
            split at h
            · rename_i hll
              subst hll
              split at h
              · rename_i h0
                subst h0
                cases h
                refine ⟨_, run hc.1 (by omega), ?_⟩
                simp only [VR]
                refine ⟨c, ext, k, hr, ?_, by omega, hcap2⟩
                have : h' = 0 := by omega
                subst this
                simp
              · cases h
                refine ⟨_, run hc.1 (by omega), ?_⟩
                simp only [VR]
                refine ⟨⟨c, if k = l then o else o + l * ei.size, none⟩, k - l, ?_⟩
                have : h' - l = 0 := by omega
                rw [this]
            · rename_i hll
              split at h
              · rename_i h0
                subst h0
                cases h
                refine ⟨_, run hc.1 (by omega), ?_⟩
                simp only [VR]
                refine ⟨c, ext, k, hr, by simp, by omega, hcap2⟩
              · rename_i h0
                split at h
                · rename_i hes
                  cases h
                  refine ⟨_, run hc.1 (by omega), ?_⟩
                  simp only [VR]
                  refine ⟨c, ext, k - l, hr, ?_, by omega, ?_⟩
                  · rw [if_neg (by omega)]
                  · have : o + l * ei.size + (k - l) * es = o + k * es := by
                      subst hes
                      rw [Nat.add_assoc, ← Nat.add_mul]
                      congr 2; omega
                    omega
                · cases h
          · cases h
      · cases h
    · rename_i n e b o e1
      rw [e1] at hk; simp only [KOK] at hk; subst hk
      simp only [VR] at hu
      obtain ⟨c, ext, hr, rfl⟩ := hu
      split at h
      · rename_i ei l h' he h1 h2
        have b1 := aint_ok hl hl0 h1
        have b2 := aint_ok hh hh0 h2
        have ts := run_size (P := P) (w := w) (hC.T e ei he)
        split at h
        · rename_i hc
          cases h
          have := bounds_run (P := P) (w := w) false n n b1 b2 hc.1 hc.2
          refine ⟨.slice (some ⟨c, if n = l then o else o + l * ei.size, none⟩) (h' - l) (n - l), ?_, ?_⟩
          · simp only [Instr.sliceAt, Instr.sureAddr, run_under hd, Sem.run_bind, Result.andThen_ok, this, ts, Sem.run_pure, addr_add]
            split <;> rfl
          · simp only [VR]
            exact ⟨c, ext, _, hr, rfl, rfl⟩
        · cases h
      · cases h
    · cases h

theorem afield_ok (hC : COK P C) {t : TypeId} {x v : AV} {u : Value} (hu : VR r x u) {f : Nat} (h : afield C t x f = some v) :
    ∃ c, (Instr.fieldAt t u f).run P w = .ok c w ∧ VR r v c := by
  unfold afield at h
  split at h
  · rename_i fs _ _ _ b o hT
    obtain ⟨d, hd, a, rfl, h1, h2⟩ := desc_of hC hT
    simp only [VR] at hu
    obtain ⟨c, e, hr, rfl⟩ := hu
    split at h
    · rename_i off size ft hf
      split at h
      · cases h
      · rename_i hs
        cases h
        have hmem := List.mem_of_getElem? hf
        have hsz := h2 _ hmem
        have hk : (a.toList.map (fun f => (f.offset, f.type)))[f]? = some (off, ft) := by rw [h1, List.getElem?_map, hf]; rfl
        rw [List.getElem?_map] at hk
        cases hfa : a.toList[f]? with
        | none => rw [hfa] at hk; cases hk
        | some fl =>
          rw [hfa] at hk
          simp only [Option.map_some, Option.some.injEq, Prod.mk.injEq] at hk
          obtain ⟨rfl, rfl⟩ := hk
          have hfa' : a[f]? = some fl := by simpa using hfa
          cases hi : P.info? fl.type with
          | none => rw [hi] at hsz; cases hsz
          | some ti =>
            rw [hi] at hsz
            simp only [Option.map_some, Option.some.injEq] at hsz
            refine ⟨.pointer (some ⟨c, o + fl.offset, none⟩), ?_, by simp only [VR]; exact ⟨c, e, hr, rfl⟩⟩
            simp [Instr.fieldAt, Instr.sureAddr, run_under hd, hfa', fieldPlace, sizeOf, run_info hi, hsz, hs, addr_add]
    · cases h
  · cases h

theorem aidx_ok (hC : COK P C) {t : TypeId} {x i v : AV} {u j : Value} (hu : VR r x u) (hj : VR r i j) (h : aidx C t x i = some v) :
    ∃ c, (Instr.indexAt t u j).run P w = .ok c w ∧ VR r v c := by
  unfold aidx at h
  split at h
  · rename_i e _ _ _ b o len cap k n hT
    obtain ⟨d, hd, hk⟩ := desc_of hC hT
    simp only [KOK] at hk; subst hk
    simp only [VR] at hu hj; subst hj
    obtain ⟨c, ex, q, hr, rfl, _⟩ := hu
    split at h
    · rename_i ei he
      split at h
      · rename_i hn
        cases h
        have ts := run_size (P := P) (w := w) (hC.T e ei he)
        refine ⟨.pointer (some ⟨c, o + n.toNat * ei.size, none⟩), ?_, by simp only [VR]; exact ⟨c, ex, hr, rfl⟩⟩
        simp [Instr.indexAt, asIntOf, run_under hd, hn.1, hn.2, ts, addr_add]
      · cases h
    · cases h
  · rename_i len e _ _ _ b o k n hT
    obtain ⟨d, hd, hk⟩ := desc_of hC hT
    simp only [KOK] at hk; subst hk
    simp only [VR] at hu hj; subst hj
    obtain ⟨c, ex, hr, rfl⟩ := hu
    split at h
    · rename_i ei he
      split at h
      · rename_i hn
        cases h
        have ts := run_size (P := P) (w := w) (hC.T e ei he)
        refine ⟨.pointer (some ⟨c, o + n.toNat * ei.size, none⟩), ?_, by simp only [VR]; exact ⟨c, ex, hr, rfl⟩⟩
        simp [Instr.indexAt, Instr.sureAddr, asIntOf, run_under hd, hn.1, hn.2, ts, addr_add]
      · cases h
    · cases h
  · cases h

theorem aindex_ok (hC : COK P C) {t : TypeId} {x i v : AV} {u j : Value} (hu : VR r x u) (hj : VR r i j) (h : aindex C t x i = some v) :
    ∃ c, (Instr.index t u j).run P w = .ok c w ∧ VR r v c := by
  unfold aindex at h
  split at h
  · rename_i l k n hT
    obtain ⟨d, hd, hk⟩ := desc_of hC hT
    simp only [KOK] at hk; subst hk
    simp only [VR] at hu hj; subst hu hj
    split at h
    · rename_i hn
      split at h
      · rename_i c hc
        cases h
        refine ⟨_, ?_, VR.int _ _⟩
        have hlt : n.toNat < l.length := (List.getElem?_eq_some_iff.1 hc).1
        have hlt' : n.toNat < (ByteArray.mk l.toArray).size := by simpa [ByteArray.size] using hlt
        have hget : (ByteArray.mk l.toArray)[n.toNat]? = some c := by
          rw [ByteArray.getElem?_lt' _ _ hlt']
          have := (List.getElem?_eq_some_iff.1 hc).2
          rw [← this]; rfl
        simp only [Instr.index, asIntOf, Sem.run_bind, Sem.run_pure, Result.andThen_ok, run_under hd, hn, if_true, hget]
      · cases h
    · cases h
  · rename_i len e _ _ _ cs k n hT
    obtain ⟨d, hd, hk⟩ := desc_of hC hT
    simp only [KOK] at hk; subst hk
    simp only [VR] at hu hj; subst hj
    obtain ⟨y, rfl, hy⟩ := hu
    split at h
    · rename_i ei he
      split at h
      · rename_i hn
        have ts := run_size (P := P) (w := w) (hC.T e ei he)
        obtain ⟨c, hc, hv⟩ := apart_ok (P := P) (w := w) hC hy h
        refine ⟨c, ?_, hv⟩
        simp only [Instr.index, asIntOf, Sem.run_bind, Sem.run_pure, Result.andThen_ok, run_under hd, hn, and_self, if_true, ts, hc]
      · cases h
    · cases h
  · cases h
end
end Go.Abs
namespace Go.Abs
open Go
section
variable {P : Program} {C : Cfg} {r : Ren} {H : Heap} {w : World}

theorem aparts_ok {ρ : Operand → Option AV} {σ : Operand → Value} (hρ : ∀ x v, ρ x = some v → VR r v (σ x)) : ∀ {l : List (Nat × Operand)} {m : List (Nat × AV)}, aparts ρ l = some m →
    (l.map fun p => (p.1, σ p.2)).map (·.1) = m.map (·.1) ∧ VRL r (m.map (·.2)) ((l.map fun p => (p.1, σ p.2)).map (·.2))
  | [], m, h => by simp only [aparts, Option.some.injEq] at h; subst h; simp [VRL]
  | x :: l, m, h => by
    simp only [aparts] at h
    split at h
    · rename_i a m' h1 h2
      cases h
      obtain ⟨i1, i2⟩ := aparts_ok hρ h2
      refine ⟨by simp [i1], ?_⟩
      simp only [List.map_cons, VRL]
      exact ⟨_, _, rfl, hρ _ _ h1, i2⟩
    · cases h

theorem noRen_le (r : Ren) : (noRen).le r := fun _ _ h => by cases h

theorem zero_ok (hC : COK P C) {t : TypeId} {i : TI} (h : C.T t = some i) : ∃ z, (zeroValue t).run P w = .ok z w ∧ VRL r i.zero z.cells.toList := by
  obtain ⟨x, hx, _, _, z, hz, hv⟩ := (hC.T t i h).info
  exact ⟨z, by simp [zeroValue, run_info hx, hz], VRL.mono (noRen_le r) _ _ hv⟩

theorem mapM_sizes (hC : COK P C) {fs : List (Nat × Nat × TypeId)} : ∀ (l : List Field) (g : List (Nat × Nat × TypeId)), l.map (fun f => (f.offset, f.type)) = g.map (fun x => (x.1, x.2.2)) →
    (∀ x ∈ g, (P.info? x.2.2).map (·.size) = some x.2.1) →
    (l.mapM fun f => (do pure (f.offset, ← sizeOf f.type) : Sem (Nat × Nat))).run P w = .ok (g.map fun x => (x.1, x.2.1)) w
  | [], g, h, _ => by
    cases g with
    | nil => rfl
    | cons => simp at h
  | f :: l, g, h, hs => by
    cases g with
    | nil => simp at h
    | cons x g =>
      simp only [List.map_cons, List.cons.injEq, Prod.mk.injEq] at h
      obtain ⟨⟨h1, h2⟩, h3⟩ := h
      have ih := mapM_sizes hC (fs := fs) l g h3 (fun y hy => hs y (List.mem_cons_of_mem _ hy))
      have hx := hs x (List.mem_cons_self ..)
      rw [← h2] at hx
      cases hi : P.info? f.type with
      | none => rw [hi] at hx; cases hx
      | some ti =>
        rw [hi] at hx
        simp only [Option.map_some, Option.some.injEq] at hx
        have hsz : (sizeOf f.type).run P w = .ok x.2.1 w := by simp [sizeOf, run_info hi, hx]
        simp only [List.mapM_cons, Sem.run_bind, hsz, Result.andThen_ok, Sem.run_pure, ih, List.map_cons, h1]

theorem abuild_ok (hC : COK P C) {ρ : Operand → Option AV} {σ : Operand → Value} (hρ : ∀ x v, ρ x = some v → VR r v (σ x)) {t : TypeId} {parts : Array (Nat × Operand)} {v : AV}
    (h : aval C H ρ (.build t parts) = some v) : ∃ c, (Instr.build t (parts.map fun (i, x) => (i, σ x))).run P w = .ok c w ∧ VR r v c := by
  simp only [aval] at h
  split at h
  · rename_i i ps hi hps
    obtain ⟨k1, k2⟩ := aparts_ok hρ hps
    obtain ⟨d, hd, hk⟩ := desc_of hC hi
    obtain ⟨z, hz, hzv⟩ := zero_ok (P := P) (r := r) (w := w) hC hi
    have hq : (parts.map fun (p : Nat × Operand) => (p.1, σ p.2)).toList = parts.toList.map fun p => (p.1, σ p.2) := by simp
    split at h
    · rename_i fs hfs
      rw [hfs] at hk
      obtain ⟨a, rfl, h1, h2⟩ := hk
      cases hf : afill (fun j => (fs[j]?).map fun x => (x.1, x.2.1)) i.zero ps with
      | none => rw [hf] at h; cases h
      | some l =>
        rw [hf] at h; cases h
        obtain ⟨y, hy1, hy2⟩ := afill_ok (r := r) k1 k2 hzv hf
        refine ⟨.agg y.toArray, ?_, by simp only [VR]; exact ⟨y, rfl, hy2⟩⟩
        have hm := mapM_sizes (P := P) (w := w) hC (fs := fs) a.toList fs h1 h2
        have hma : (a.mapM fun f => (do pure (f.offset, ← sizeOf f.type) : Sem (Nat × Nat))).run P w = .ok (fs.map fun x => (x.1, x.2.1)).toArray w := by
          rw [Array.mapM_eq_mapM_toList, Sem.run_map, hm]; rfl
        have hpl : (fun j : Nat => (fs.map fun x => (x.1, x.2.1)).toArray[j]?) = fun j : Nat => (fs[j]?).map fun (x : Nat × Nat × TypeId) => (x.1, x.2.1) := by
          funext j; simp
        unfold Instr.build
        simp only [Sem.run_bind, hz, Result.andThen_ok, run_under hd, hma, hpl, hq]
        rw [Array.toArray_toList] at hy1
        rw [hy1]
        rfl
    · rename_i n e hn
      rw [hn] at hk; simp only [KOK] at hk; subst hk
      split at h
      · rename_i ei he
        have ts := run_size (P := P) (w := w) (hC.T e ei he)
        cases hf : afill (fun j => some (j * ei.size, ei.size)) i.zero ps with
        | none => rw [hf] at h; cases h
        | some l =>
          rw [hf] at h; cases h
          obtain ⟨y, hy1, hy2⟩ := afill_ok (r := r) k1 k2 hzv hf
          refine ⟨.agg y.toArray, ?_, by simp only [VR]; exact ⟨y, rfl, hy2⟩⟩
          unfold Instr.build
          simp only [Sem.run_bind, hz, Result.andThen_ok, run_under hd, ts, hq]
          rw [Array.toArray_toList] at hy1
          rw [hy1]
          rfl
      · cases h
    · cases h
  · cases h

theorem amin_ok {lt : Bool} : ∀ {l : List AV} {y : List Value} {a : AV} {u : Value} {v : AV}, VR r a u → VRL r l y → amin lt a l = some v →
    (∃ c, (y.foldlM (if lt then Builtin.min2 else Builtin.max2) u).run P w = .ok c w ∧ VR r v c)
  | [], y, a, u, v, ha, hl, h => by
    simp only [VRL] at hl; subst hl
    cases a <;> simp only [amin, Option.some.injEq] at h <;> subst h <;> exact ⟨u, rfl, ha⟩
  | b :: l, y, a, u, v, ha, hl, h => by
    simp only [VRL] at hl
    obtain ⟨c, z, rfl, h1, h2⟩ := hl
    cases a <;> cases b <;> simp only [amin] at h <;> first | (cases h; done) | skip
    rename_i k x k' x'
    split at h
    · rename_i hk; subst hk
      simp only [VR] at ha h1; subst ha h1
      have := amin_ok (u := .int k (if lt then (if x' < x then x' else x) else (if x' > x then x' else x))) (VR.int _ _) h2 h
      cases lt
      · simpa [List.foldlM_cons, Builtin.max2] using this
      · simpa [List.foldlM_cons, Builtin.min2] using this
    · cases h

theorem alen_ok {t ty : TypeId} {a v : AV} {u : Value} {i : TI} (hC : COK P C) (ht : C.T t = some i) (hu : VR r a u) (h : alen a = some v)
    (hk : i.k = .string ∧ (∃ l, a = .s l) ∨ (∃ e, i.k = .slice e) ∧ ∀ l, a ≠ .s l) : ∃ c, (Builtin.len_ #[t] ty #[u]).run P w = .ok c w ∧ VR r v c := by
  obtain ⟨d, hd, hkk⟩ := desc_of hC ht
  rcases hk with ⟨hk, l, rfl⟩ | ⟨⟨e, hk⟩, hn⟩
  · rw [hk] at hkk; simp only [KOK] at hkk; subst hkk
    simp only [VR] at hu; subst hu
    simp only [alen, Option.some.injEq] at h; subst h
    exact ⟨.int .i64 l.length, by simp only [Builtin.len_, List.getElem?_toArray, List.getElem?_cons_zero, Sem.run_bind, run_under hd, Result.andThen_ok]; rfl, VR.int _ _⟩
  · rw [hk] at hkk; simp only [KOK] at hkk; subst hkk
    cases a <;> simp only [alen, Option.some.injEq] at h <;> first | (cases h; done) | skip
    all_goals subst h
    · exact absurd rfl (hn _)
    · simp only [VR] at hu; obtain ⟨_, _, _, _, rfl, _⟩ := hu
      exact ⟨_, by simp [Builtin.len_, run_under hd, goInt], VR.int _ _⟩
    · simp only [VR] at hu; subst hu
      exact ⟨_, by simp [Builtin.len_, run_under hd, goInt], VR.int _ _⟩
    · simp only [VR] at hu; obtain ⟨_, _, rfl⟩ := hu
      exact ⟨_, by simp [Builtin.len_, run_under hd, goInt], VR.int _ _⟩
end
end Go.Abs
namespace Go.Abs
open Go
section
variable {P : Program} {C : Cfg} {r : Ren} {H : Heap} {w : World}

theorem opt_ok {ρ : Operand → Option AV} {σ : Operand → Value} (hρ : ∀ x v, ρ x = some v → VR r v (σ x)) {lo : Option Operand} {l : Option AV}
    (h : (match lo with | none => some none | some l => (ρ l).map some) = some l) : (∀ a, l = some a → ∃ c, lo.map σ = some c ∧ VR r a c) ∧ (l = none → lo.map σ = none) := by
  cases lo with
  | none => simp only [Option.some.injEq] at h; subst h; exact ⟨fun a h => (by cases h), fun _ => rfl⟩
  | some x =>
    simp only [Option.map_eq_some_iff] at h
    obtain ⟨a, h1, rfl⟩ := h
    exact ⟨fun b hb => by cases hb; exact ⟨σ x, rfl, hρ _ _ h1⟩, fun h => by cases h⟩

theorem vrun {s : Sem Value} {v : AV} (h : ∃ c, s.run P w = .ok c w ∧ VR r v c) : ∃ c, (do pure (.value (← s)) : Sem Next).run P w = .ok (.value c) w ∧ VR r v c := by
  obtain ⟨c, h1, h2⟩ := h
  exact ⟨c, by simp only [Sem.run_bind, h1, Result.andThen_ok, Sem.run_pure], h2⟩

theorem aval_ok (hC : COK P C) (s : Sim P r H w) {ρ : Operand → Option AV} {σ : Operand → Value} (hρ : ∀ x v, ρ x = some v → VR r v (σ x)) (o : Oper) {v : AV}
    (h : aval C H ρ o.op = some v) : ∃ c, (execOp σ o).run P w = .ok (.value c) w ∧ VR r v c := by
  obtain ⟨dst, op, type, pos, after, guard⟩ := o
  cases op with
  | move x => exact ⟨σ x, rfl, hρ _ _ h⟩
  | assign x => exact ⟨σ x, rfl, hρ _ _ h⟩
  | pick c a b =>
    simp only [aval] at h
    split at h
    · rename_i t ht
      have := hρ _ _ ht
      simp only [VR] at this
      simp only [execOp, this, asBool, Sem.run_bind, Sem.run_pure, Result.andThen_ok]
      cases t
      · exact ⟨σ b, rfl, hρ _ _ h⟩
      · exact ⟨σ a, rfl, hρ _ _ h⟩
    · cases h
  | build t parts => exact vrun (abuild_ok hC hρ h)
  | load t a =>
    simp only [aval] at h
    split at h
    · rename_i b o hb
      exact vrun (aload_ok hC s (hρ _ _ hb) h)
    · cases h
  | nilCheck x =>
    simp only [aval] at h
    split at h
    · rename_i b o hb
      cases h
      have := hρ _ _ hb
      have hv := this
      simp only [VR] at this
      obtain ⟨c, e, _, h2⟩ := this
      exact ⟨σ x, by simp only [execOp, h2]; rfl, hv⟩
    · rename_i f fi ca hb
      cases h
      have := hρ _ _ hb
      have hv := this
      simp only [VR] at this
      obtain ⟨c, e, h2, _⟩ := this
      exact ⟨σ x, by simp only [execOp, h2]; rfl, hv⟩
    · cases h
  | binOp op t x y yt =>
    simp only [aval] at h
    split at h
    · rename_i l m ha hb
      exact vrun (aeqA_ok hC (hρ _ _ ha) (hρ _ _ hb) h)
    · rename_i a b _ ha hb
      simp only [Bool.cond_eq_ite] at h
      split at h
      · cases h
      · rename_i hq
        refine vrun (abinop_ok hC (hρ _ _ ha) (hρ _ _ hb) h fun he => ?_)
        simpa [he] using hq
    · cases h
  | unOp op t x =>
    simp only [aval] at h
    split at h
    · rename_i a ha
      exact vrun (aun_ok (hρ _ _ ha) h)
    · cases h
  | convert a b x =>
    simp only [aval] at h
    split at h
    · rename_i a ha
      exact vrun (aconv_ok hC s (hρ _ _ ha) h)
    · cases h
  | slice t x lo hi mx =>
    cases mx with
    | some m => simp [aval] at h
    | none =>
      simp only [aval] at h
      split at h
      · rename_i a l hh ha hl hhh
        obtain ⟨l1, l2⟩ := opt_ok hρ hl
        obtain ⟨h1, h2⟩ := opt_ok hρ hhh
        exact vrun (aslice_ok hC (hρ _ _ ha) l1 l2 h1 h2 h)
      · cases h
  | fieldAddr t x f =>
    simp only [aval] at h
    split at h
    · rename_i a ha
      exact vrun (afield_ok hC (hρ _ _ ha) h)
    · cases h
  | field t x f =>
    simp only [aval] at h
    split at h
    · rename_i cs fs _ _ _ ha hT
      split at h
      · rename_i off sz ft hf
        have hv := hρ _ _ ha
        simp only [VR] at hv
        obtain ⟨y, hy, hyv⟩ := hv
        obtain ⟨c, hc, hcv⟩ := apart_ok (P := P) (w := w) hC hyv h
        obtain ⟨d, hd, a, rfl, h1, h2⟩ := desc_of hC hT
        have hk : (a.toList.map (fun f => (f.offset, f.type)))[f]? = some (off, ft) := by rw [h1, List.getElem?_map, hf]; rfl
        rw [List.getElem?_map] at hk
        cases hfa : a.toList[f]? with
        | none => rw [hfa] at hk; cases hk
        | some fl =>
          rw [hfa] at hk
          simp only [Option.map_some, Option.some.injEq, Prod.mk.injEq] at hk
          obtain ⟨rfl, rfl⟩ := hk
          have hfa' : a[f]? = some fl := by simpa using hfa
          refine vrun ⟨c, ?_, hcv⟩
          simp only [Instr.field, Sem.run_bind, run_under hd, Result.andThen_ok, hfa', hy, asAgg, Sem.run_pure, hc]
      · cases h
    · cases h
  | indexAddr t x i =>
    simp only [aval] at h
    split at h
    · rename_i a n ha hn
      exact vrun (aidx_ok hC (hρ _ _ ha) (hρ _ _ hn) h)
    · cases h
  | index t x i =>
    simp only [aval] at h
    split at h
    · rename_i a n ha hn
      exact vrun (aindex_ok hC (hρ _ _ ha) (hρ _ _ hn) h)
    · cases h
  | extract x i =>
    simp only [aval] at h
    split at h
    · rename_i l hl
      have hv := hρ _ _ hl
      simp only [VR] at hv
      obtain ⟨y, hy, hyv⟩ := hv
      obtain ⟨c, hc, hcv⟩ := hyv.get h
      refine vrun ⟨c, ?_, hcv⟩
      simp [hy, Instr.extract, hc]
    · cases h
  | makeFunc f fi ca =>
    simp only [aval] at h
    split at h
    · rename_i x y hx hy
      cases h
      refine vrun ⟨.func f (fi.map σ) (ca.map σ), rfl, ?_⟩
      simp only [VR]
      exact ⟨fi.toList.map σ, ca.toList.map σ, by rw [← Array.toList_map, ← Array.toList_map, Array.toArray_toList, Array.toArray_toList], aevs_ok hρ hx, aevs_ok hρ hy⟩
    · cases h
  | call c =>
    obtain ⟨callee, args, argTypes⟩ := c
    simp only [aval] at h
    have hex : ∀ b, callee = .builtin b → (execOp σ ⟨dst, .call ⟨callee, args, argTypes⟩, type, pos, after, guard⟩).run P w =
        (builtin b argTypes type (args.map fun | .const _ => true | _ => false) (args.map σ)).run P w := by
      rintro b rfl; rfl
    split at h
    · rw [hex _ rfl]
      have hat : ∀ i, (argTypes[0]?).bind C.T = some i → ∃ t, argTypes[0]? = some t ∧ C.T t = some i := by
        intro i hi
        cases ha : argTypes[0]? with
        | none => rw [ha] at hi; cases hi
        | some t => rw [ha] at hi; exact ⟨t, rfl, hi⟩
      have len : ∀ a i, aevs ρ args.toList = some [a] → (argTypes[0]?).bind C.T = some i → alen a = some v →
          (i.k = .string ∧ (∃ l, a = .s l) ∨ (∃ e, i.k = .slice e) ∧ ∀ l, a ≠ .s l) →
          ∃ c, (builtin .len argTypes type (args.map fun | .const _ => true | _ => false) (args.map σ)).run P w = .ok (.value c) w ∧ VR r v c := by
        intro a i hargs hti hlen hkk
        obtain ⟨t, ht1, ht2⟩ := hat i hti
        have hv := aevs_ok hρ hargs
        simp only [VRL] at hv
        obtain ⟨u, y, hy, huv, rfl⟩ := hv
        obtain ⟨c, hc, hcv⟩ := alen_ok (P := P) (w := w) (ty := type) hC ht2 huv hlen hkk
        refine vrun ⟨c, ?_, hcv⟩
        have e1 : (args.map σ) = #[u] := by
          apply Array.toList_inj.1
          simpa using hy
        rw [← hc]
        simp only [Builtin.len_, e1, ht1]
        rfl
      split at h
      · rename_i hargs hti; obtain ⟨h1, h2⟩ := alenT_alen h; exact len _ _ hargs hti h1 h2
      · cases h
    · rw [hex _ rfl]
      split at h
      · rename_i a l hargs
        have hv := aevs_ok hρ hargs
        simp only [VRL] at hv
        obtain ⟨u, y, hy, huv, hyv⟩ := hv
        obtain ⟨c, hc, hcv⟩ := amin_ok (P := P) (w := w) huv hyv h
        refine vrun ⟨c, ?_, hcv⟩
        have e1 : (args.map σ).toList = u :: y := by simpa using hy
        simp only [Builtin.min_, e1]
        simpa using hc
      · cases h
    · rw [hex _ rfl]
      split at h
      · rename_i a l hargs
        have hv := aevs_ok hρ hargs
        simp only [VRL] at hv
        obtain ⟨u, y, hy, huv, hyv⟩ := hv
        obtain ⟨c, hc, hcv⟩ := amin_ok (P := P) (w := w) huv hyv h
        refine vrun ⟨c, ?_, hcv⟩
        have e1 : (args.map σ).toList = u :: y := by simpa using hy
        simp only [Builtin.max_, e1]
        simpa using hc
      · cases h
    · cases h
  | _ => simp [aval] at h
end
end Go.Abs
