/- The rules of a walk, bundled. Conditions: none. -/
import Derived.Test.YtnladombaepkkaaGreatDoorFacts
import Derived.Test.YtnladombaepkkaaGreatDoorAbsD
set_option linter.all false
namespace Go.Abs
open Go
theorem bB : (∀ {n : Nat}, n ≤ 140737488355328 → (n ≤ bigCells) = True) ∧
  (∀ (l : List UInt8), alenT TK.string (AV.s l) = some (AV.i IntKind.i64 ↑l.length)) ∧
  (∀ (e b o n : Nat) (c : Cap), alenT (TK.slice e) (AV.sl b o n c) = some (AV.i IntKind.i64 ↑n)) ∧
  (∀ (e : Nat), alenT (TK.slice e) AV.ns = some (AV.i IntKind.i64 0)) ∧
  (∀ (e : Nat), alenT (TK.slice e) AV.em = some (AV.i IntKind.i64 0)) ∧
  (∀ {α : Type} (t : Tr α) (k j : Nat) (x : Option α), (t.put k x).get j = if k = j then x else t.get j) ∧
  (∀ {α : Type} (k : Nat), (Tr.l : Tr α).get k = none) ∧
  (∀ {α : Type} {x : Decidable True} (t e : α), (if True then t else e) = t) ∧
  (∀ {α : Type} {x : Decidable False} (t e : α), (if False then t else e) = e) ∧
  ((!true) = false) ∧
  ((!false) = true) ∧
  (∀ (b : Bool), (b && true) = b) ∧
  (∀ (b : Bool), (b && false) = false) ∧
  (∀ (b : Bool), (true && b) = b) ∧
  (∀ (b : Bool), (false && b) = false) ∧
  (∀ (b : Bool), (b || true) = true) ∧
  (∀ (b : Bool), (b || false) = b) ∧
  ((false = true) = False) ∧
  (∀ {α : Type} (a b : α), (bif true then a else b) = a) ∧
  (∀ {α : Type} (a b : α), (bif false then a else b) = b) ∧
  (∀ {α β : Type} (a : α) (f : α → β), Option.map f (some a) = some (f a)) ∧
  (∀ {α β : Type} (f : α → β), Option.map f (none : Option α) = none) ∧
  (∀ {α β : Type} (a : α) (f : α → Option β), (some a).bind f = f a) ∧
  (∀ {α β : Type} (f : α → Option β), (none : Option α).bind f = none) ∧
  (∀ {α : Type} (val val_1 : α), (some val = some val_1) = (val = val_1)) ∧
  (∀ (p : Prop), (p ∧ True) = p) ∧
  (∀ (p : Prop), (True ∧ p) = p) ∧
  (∀ {α : Type} {xs : List α} {i : Nat}, xs.toArray[i]? = xs[i]?) ∧
  (∀ {α : Type} {a : α} {l : List α}, (a :: l)[0]? = some a) ∧
  (∀ {α : Type} {a : α} {i : Nat} {l : List α}, (a :: l)[i + 1]? = l[i]?) ∧
  (∀ {α : Type} {i : Nat}, ([] : List α)[i]? = none) ∧
  (∀ {α : Type} {l : List α}, List.take 0 l = []) ∧
  (∀ {α : Type} {l : List α}, List.drop 0 l = l) ∧
  (∀ (n : Nat), 0 + n = n) ∧
  (∀ (n : Nat), n + 0 = n) ∧
  (∀ {α : Type} [inst : BEq α] [ReflBEq α] (a : α), (a == a) = true) ∧
  (∀ (n : Nat), 0 ≤ (n : Int)) ∧
  (∀ (n : Nat), (n : Int).toNat = n) ∧
  (∀ (n k : Nat), n ≤ n + k) ∧
  (∀ (n : Nat), n ≤ n) ∧
  (∀ (n : Nat), 0 ≤ n) ∧
  (∀ (p : Prop), (p ∧ p) = p) ∧
  (∀ {α : Type} (a : α), (a = a) = True) ∧
  (∀ {α : Type} (l0 : List α), [] ++ l0 = l0) ∧
  (∀ {α : Type} (l0 : List α), l0 ++ [] = l0) ∧
  (∀ {α : Type} {a : α} {l0 bs : List α}, a :: l0 ++ bs = a :: (l0 ++ bs)) ∧
  (∀ {α : Type} {a : α} {l0 : List α}, (a :: l0).length = l0.length + 1) ∧
  (∀ {α : Type}, ([] : List α).length = 0) ∧
  (∀ {α : Type} {a : α} {l0 : List α} {i : Nat}, List.take (i + 1) (a :: l0) = a :: List.take i l0) ∧
  (∀ {α : Type} {a : α} {l : List α} {i : Nat}, List.drop (i + 1) (a :: l) = List.drop i l) ∧
  (∀ {α : Type} {i : Nat}, List.take i ([] : List α) = []) ∧
  (∀ {α : Type} {i : Nat}, List.drop i ([] : List α) = []) ∧
  (∀ (n : Nat), 1 * n = n) ∧
  (∀ (n : Nat), n * 1 = n) ∧
  (∀ (n : Nat), 0 * n = 0) ∧
  (∀ (n : Nat), n * 0 = 0) ∧
  (∀ (n : Nat), n - 0 = n) ∧
  (∀ (b : Bool), (b == true) = b) ∧
  (∀ (b : Bool), (b == false) = !b) ∧
  (∀ (h : Decidable True), decide True = true) ∧
  (∀ (h : Decidable False), decide False = false) :=
  ⟨@Go.Abs.big_lit,
   @Go.Abs.alenT_s,
   @Go.Abs.alenT_sl,
   @Go.Abs.alenT_ns,
   @Go.Abs.alenT_em,
   @Go.Abs.Tr.get_put,
   @Go.Abs.Tr.get_leaf,
   @if_true,
   @if_false,
   @Bool.not_true,
   @Bool.not_false,
   @Bool.and_true,
   @Bool.and_false,
   @Bool.true_and,
   @Bool.false_and,
   @Bool.or_true,
   @Bool.or_false,
   @Bool.false_eq_true,
   @cond_true,
   @cond_false,
   @Option.map_some,
   @Option.map_none,
   @Option.bind_some,
   @Option.bind_none,
   @Option.some.injEq,
   @and_true,
   @true_and,
   @List.getElem?_toArray,
   @List.getElem?_cons_zero,
   @List.getElem?_cons_succ,
   @List.getElem?_nil,
   @List.take_zero,
   @List.drop_zero,
   @Nat.zero_add,
   @Nat.add_zero,
   @beq_self_eq_true,
   @Int.natCast_nonneg,
   @Int.toNat_natCast,
   @Nat.le_add_right,
   @Nat.le_refl,
   @Nat.zero_le,
   @and_self,
   @eq_self,
   @List.nil_append,
   @List.append_nil,
   @List.cons_append,
   @List.length_cons,
   @List.length_nil,
   @List.take_succ_cons,
   @List.drop_succ_cons,
   @List.take_nil,
   @List.drop_nil,
   @Nat.one_mul,
   @Nat.mul_one,
   @Nat.zero_mul,
   @Nat.mul_zero,
   @Nat.sub_zero,
   @beq_true,
   @beq_false,
   @decide_true,
   @decide_false⟩
theorem bG : (∀ (h : Heap) {b c : Nat} (x : Option Blk), b ≠ c → (h.setO b x).get c = h.get c) ∧
  (∀ {α : Type} (a b : α), (a ≠ b) = ¬a = b) ∧
  ((¬False) = True) ∧
  (∀ (h : Heap) (x : Blk), h.alloc x = h.grow [some x]) ∧
  (∀ (h : Heap) (l m : List (Option Blk)), (h.grow l).grow m = h.grow (l ++ m)) ∧
  (∀ (l : List (Option Blk)) (h : Heap) (i : Nat) (y : Blk), i < l.length → (h.grow l).set (h.next + i) y = h.grow (l.set i (some y))) ∧
  (∀ (x : Option Blk) (l : List (Option Blk)) (h : Heap) (y : Blk), (h.grow (x :: l)).set h.next y = h.grow (some y :: l)) ∧
  (∀ (l : List (Option Blk)) (h : Heap) {b : Nat} (y : Blk), b < h.next → (h.grow l).set b y = (h.set b y).grow l) ∧
  (∀ (l : List (Option Blk)) (h : Heap) (i : Nat) (y : Blk), i < l.length → (h.grow l).turn (h.next + i) y = h.grow (l.set i none ++ [some y])) ∧
  (∀ (x : Option Blk) (l : List (Option Blk)) (h : Heap) (y : Blk), (h.grow (x :: l)).turn h.next y = h.grow (none :: (l ++ [some y]))) ∧
  (∀ (l : List (Option Blk)) (h : Heap) {b : Nat} (y : Blk), b < h.next → (h.grow l).turn b y = (h.setO b none).grow (l ++ [some y])) ∧
  (∀ (l : List (Option Blk)) (h : Heap) (i : Nat), (h.grow l).get (h.next + i) = l.getD i none) ∧
  (∀ (l : List (Option Blk)) (h : Heap), (h.grow l).get h.next = l.getD 0 none) ∧
  (∀ (l : List (Option Blk)) (h : Heap) {b : Nat}, b < h.next → (h.grow l).get b = h.get b) ∧
  (∀ (h : Heap) (l : List (Option Blk)), (h.grow l).next = h.next + l.length) ∧
  (∀ (h : Heap) (b : Nat) (x : Blk), (h.set b x).next = h.next) ∧
  (∀ (h : Heap) (b : Nat) (x : Option Blk), (h.setO b x).next = h.next) ∧
  (∀ {α : Type} {x : α} {xs : List α} {d : α}, (x :: xs).getD 0 d = x) ∧
  (∀ {α : Type} {x : α} {xs : List α} {n : Nat} {d : α}, (x :: xs).getD (n + 1) d = xs.getD n d) ∧
  (∀ {α : Type} {x : α} {xs : List α} {a : α}, (x :: xs).set 0 a = a :: xs) ∧
  (∀ {α : Type} {x : α} {xs : List α} {i : Nat} {a : α}, (x :: xs).set (i + 1) a = x :: xs.set i a) ∧
  (∀ (n : Nat), 0 < n.succ) ∧
  (∀ {k n m : Nat}, n + k < m + k ↔ n < m) ∧
  (∀ (n : Nat), n < n + 1) ∧
  (0 < 1) :=
  ⟨@Go.Abs.Heap.get_setO_ne,
   @ne_eq,
   @not_false_eq_true,
   @Go.Abs.Heap.alloc_grow,
   @Go.Abs.Heap.grow_grow,
   @Go.Abs.Heap.set_grow,
   @Go.Abs.Heap.set_grow0,
   @Go.Abs.Heap.set_grow_old,
   @Go.Abs.Heap.turn_grow,
   @Go.Abs.Heap.turn_grow0,
   @Go.Abs.Heap.turn_grow_old,
   @Go.Abs.Heap.get_grow,
   @Go.Abs.Heap.get_grow0,
   @Go.Abs.Heap.get_grow_old,
   @Go.Abs.Heap.next_grow,
   @Go.Abs.Heap.next_set',
   @Go.Abs.Heap.next_setO,
   @List.getD_cons_zero,
   @List.getD_cons_succ,
   @List.set_cons_zero,
   @List.set_cons_succ,
   @Nat.zero_lt_succ,
   @Nat.add_lt_add_iff_right,
   @Nat.lt_add_one,
   @Nat.zero_lt_one⟩
theorem bA : (∀ (h : Heap) (j : Nat) (x : Blk), (h.alloc x).get j = if h.next = j then some x else h.get j) ∧
  (∀ (h : Heap) (x : Blk), (h.alloc x).next = h.next + 1) :=
  ⟨@Go.Abs.Heap.get_alloc,
   @Go.Abs.Heap.next_alloc⟩
end Go.Abs
namespace Go.Proofs.YtnladombaepkkaaGreatDoor
open Go Go.Abs
set_option maxRecDepth 100000 in
theorem bT : (C0.T 1 = some ⟨.func, 1, 8, [.nf]⟩) ∧
  (C0.T 2 = some ⟨.int .i64, 1, 8, [.i .i64 0]⟩) ∧
  (C0.T 3 = some ⟨.int .i64, 1, 8, [.i .i64 0]⟩) ∧
  (C0.T 4 = some ⟨.bool, 1, 1, [.b false]⟩) ∧
  (C0.T 5 = some ⟨.int .u8, 1, 1, [.i .u8 0]⟩) ∧
  (C0.T 6 = some ⟨.int .u8, 1, 1, [.i .u8 0]⟩) ∧
  (C0.T 7 = some ⟨.struct [(0, 1, 2), (1, 1, 3), (2, 1, 4), (3, 1, 6)], 4, 24, [.i .i64 0, .i .i64 0, .b false, .i .u8 0]⟩) ∧
  (C0.T 8 = some ⟨.struct [(0, 1, 2), (1, 1, 3), (2, 1, 4), (3, 1, 6)], 4, 24, [.i .i64 0, .i .i64 0, .b false, .i .u8 0]⟩) ∧
  (C0.T 9 = some ⟨.string, 1, 16, [.s []]⟩) ∧
  (C0.T 10 = some ⟨.string, 1, 16, [.s []]⟩) ∧
  (C0.T 11 = some ⟨.string, 1, 16, [.s []]⟩) ∧
  (C0.T 12 = some ⟨.int .u64, 1, 8, [.i .u64 0]⟩) ∧
  (C0.T 13 = some ⟨.struct [(0, 1, 9), (1, 1, 12)], 2, 24, [.s [], .i .u64 0]⟩) ∧
  (C0.T 14 = some ⟨.struct [(0, 1, 9), (1, 1, 12)], 2, 24, [.s [], .i .u64 0]⟩) ∧
  (C0.T 15 = some ⟨.ptr 263, 1, 8, [.np]⟩) ∧
  (C0.T 16 = some ⟨.ptr 266, 1, 8, [.np]⟩) ∧
  (C0.T 17 = some ⟨.ptr 274, 1, 8, [.np]⟩) ∧
  (C0.T 18 = some ⟨.struct [(0, 1, 17)], 1, 8, [.np]⟩) ∧
  (C0.T 19 = some ⟨.struct [(0, 1, 17)], 1, 8, [.np]⟩) ∧
  (C0.T 20 = some ⟨.other, 1, 16, [.ni]⟩) ∧
  (C0.T 21 = some ⟨.int .i32, 1, 4, [.i .i32 0]⟩) ∧
  (C0.T 22 = some ⟨.slice 84, 1, 24, [.ns]⟩) ∧
  (C0.T 23 = some ⟨.slice 53, 1, 24, [.ns]⟩) ∧
  (C0.T 24 = some ⟨.slice 54, 1, 24, [.ns]⟩) ∧
  (C0.T 25 = some ⟨.slice 9, 1, 24, [.ns]⟩) ∧
  (C0.T 26 = some ⟨.struct [(0, 1, 3), (1, 1, 22), (2, 1, 23), (3, 1, 24), (4, 1, 25)], 5, 104, [.i .i64 0, .ns, .ns, .ns, .ns]⟩) ∧
  (C0.T 27 = some ⟨.struct [(0, 1, 3), (1, 1, 22), (2, 1, 23), (3, 1, 24), (4, 1, 25)], 5, 104, [.i .i64 0, .ns, .ns, .ns, .ns]⟩) ∧
  (C0.T 28 = some ⟨.func, 1, 8, [.nf]⟩) ∧
  (C0.T 29 = some ⟨.int .u64, 1, 8, [.i .u64 0]⟩) ∧
  (C0.T 30 = some ⟨.slice 59, 1, 24, [.ns]⟩) ∧
  (C0.T 31 = some ⟨.slice 91, 1, 24, [.ns]⟩) ∧
  (C0.T 32 = some ⟨.struct [(0, 1, 4), (1, 1, 4), (2, 1, 5), (3, 1, 5), (4, 1, 29), (5, 1, 29), (6, 1, 29), (7, 1, 29), (8, 1, 29), (9, 1, 30), (10, 1, 31)], 11, 96, [.b false, .b false, .i .u8 0, .i .u8 0, .i .u64 0, .i .u64 0, .i .u64 0, .i .u64 0, .i .u64 0, .ns, .ns]⟩) ∧
  (C0.T 33 = some ⟨.struct [(0, 1, 4), (1, 1, 4), (2, 1, 5), (3, 1, 5), (4, 1, 29), (5, 1, 29), (6, 1, 29), (7, 1, 29), (8, 1, 29), (9, 1, 30), (10, 1, 31)], 11, 96, [.b false, .b false, .i .u8 0, .i .u8 0, .i .u64 0, .i .u64 0, .i .u64 0, .i .u64 0, .i .u64 0, .ns, .ns]⟩) ∧
  (C0.T 34 = some ⟨.func, 1, 8, [.nf]⟩) ∧
  (C0.T 35 = some ⟨.struct [(0, 1, 4)], 1, 1, [.b false]⟩) ∧
  (C0.T 36 = some ⟨.struct [(0, 1, 4)], 1, 1, [.b false]⟩) ∧
  (C0.T 37 = some ⟨.struct [(0, 1, 36), (1, 1, 4)], 2, 2, [.b false, .b false]⟩) ∧
  (C0.T 38 = some ⟨.struct [(0, 1, 36), (1, 1, 4)], 2, 2, [.b false, .b false]⟩) ∧
  (C0.T 39 = some ⟨.struct [(0, 2, 38), (2, 1, 5), (3, 1, 5), (4, 1, 9)], 5, 24, [.b false, .b false, .i .u8 0, .i .u8 0, .s []]⟩) ∧
  (C0.T 40 = some ⟨.struct [(0, 2, 38), (2, 1, 5), (3, 1, 5), (4, 1, 9)], 5, 24, [.b false, .b false, .i .u8 0, .i .u8 0, .s []]⟩) ∧
  (C0.T 41 = some ⟨.slice 73, 1, 24, [.ns]⟩) ∧
  (C0.T 42 = some ⟨.slice 120, 1, 24, [.ns]⟩) ∧
  (C0.T 43 = some ⟨.struct [(0, 5, 40), (5, 1, 29), (6, 1, 29), (7, 1, 29), (8, 1, 29), (9, 1, 29), (10, 1, 41), (11, 1, 42)], 12, 112, [.b false, .b false, .i .u8 0, .i .u8 0, .s [], .i .u64 0, .i .u64 0, .i .u64 0, .i .u64 0, .i .u64 0, .ns, .ns]⟩) ∧
  (C0.T 44 = some ⟨.struct [(0, 5, 40), (5, 1, 29), (6, 1, 29), (7, 1, 29), (8, 1, 29), (9, 1, 29), (10, 1, 41), (11, 1, 42)], 12, 112, [.b false, .b false, .i .u8 0, .i .u8 0, .s [], .i .u64 0, .i .u64 0, .i .u64 0, .i .u64 0, .i .u64 0, .ns, .ns]⟩) ∧
  (C0.T 45 = some ⟨.int .i64, 1, 8, [.i .i64 0]⟩) ∧
  (C0.T 47 = some ⟨.func, 1, 8, [.nf]⟩) ∧
  (C0.T 48 = some ⟨.func, 1, 8, [.nf]⟩) ∧
  (C0.T 49 = some ⟨.func, 1, 8, [.nf]⟩) ∧
  (C0.T 50 = some ⟨.func, 1, 8, [.nf]⟩) ∧
  (C0.T 51 = some ⟨.func, 1, 8, [.nf]⟩) ∧
  (C0.T 52 = some ⟨.struct [(0, 1, 9), (1, 1, 3), (2, 1, 3), (3, 1, 3)], 4, 40, [.s [], .i .i64 0, .i .i64 0, .i .i64 0]⟩) ∧
  (C0.T 53 = some ⟨.struct [(0, 1, 9), (1, 1, 3), (2, 1, 3), (3, 1, 3)], 4, 40, [.s [], .i .i64 0, .i .i64 0, .i .i64 0]⟩) ∧
  (C0.T 54 = some ⟨.arr 3 3, 3, 24, [.i .i64 0, .i .i64 0, .i .i64 0]⟩) ∧
  (C0.T 55 = some ⟨.slice 61, 1, 24, [.ns]⟩) ∧
  (C0.T 56 = some ⟨.slice 63, 1, 24, [.ns]⟩) ∧
  (C0.T 57 = some ⟨.slice 29, 1, 24, [.ns]⟩) ∧
  (C0.T 58 = some ⟨.struct [(0, 1, 9), (1, 1, 29), (2, 1, 29), (3, 1, 29), (4, 1, 29), (5, 1, 29), (6, 1, 29), (7, 1, 29), (8, 1, 29), (9, 1, 9), (10, 1, 55), (11, 1, 56), (12, 1, 57)], 13, 168, [.s [], .i .u64 0, .i .u64 0, .i .u64 0, .i .u64 0, .i .u64 0, .i .u64 0, .i .u64 0, .i .u64 0, .s [], .ns, .ns, .ns]⟩) ∧
  (C0.T 59 = some ⟨.struct [(0, 1, 9), (1, 1, 29), (2, 1, 29), (3, 1, 29), (4, 1, 29), (5, 1, 29), (6, 1, 29), (7, 1, 29), (8, 1, 29), (9, 1, 9), (10, 1, 55), (11, 1, 56), (12, 1, 57)], 13, 168, [.s [], .i .u64 0, .i .u64 0, .i .u64 0, .i .u64 0, .i .u64 0, .i .u64 0, .i .u64 0, .i .u64 0, .s [], .ns, .ns, .ns]⟩) ∧
  (C0.T 60 = some ⟨.struct [(0, 1, 9), (1, 1, 29), (2, 1, 29), (3, 1, 29), (4, 1, 29), (5, 1, 29), (6, 1, 4)], 7, 64, [.s [], .i .u64 0, .i .u64 0, .i .u64 0, .i .u64 0, .i .u64 0, .b false]⟩) ∧
  (C0.T 61 = some ⟨.struct [(0, 1, 9), (1, 1, 29), (2, 1, 29), (3, 1, 29), (4, 1, 29), (5, 1, 29), (6, 1, 4)], 7, 64, [.s [], .i .u64 0, .i .u64 0, .i .u64 0, .i .u64 0, .i .u64 0, .b false]⟩) ∧
  (C0.T 62 = some ⟨.struct [(0, 1, 29), (1, 1, 29), (2, 1, 29), (3, 1, 29)], 4, 32, [.i .u64 0, .i .u64 0, .i .u64 0, .i .u64 0]⟩) ∧
  (C0.T 63 = some ⟨.struct [(0, 1, 29), (1, 1, 29), (2, 1, 29), (3, 1, 29)], 4, 32, [.i .u64 0, .i .u64 0, .i .u64 0, .i .u64 0]⟩) ∧
  (C0.T 64 = some ⟨.slice 4, 1, 24, [.ns]⟩) ∧
  (C0.T 65 = some ⟨.func, 1, 8, [.nf]⟩) ∧
  (C0.T 67 = some ⟨.func, 1, 8, [.nf]⟩) ∧
  (C0.T 68 = some ⟨.func, 1, 8, [.nf]⟩) ∧
  (C0.T 69 = some ⟨.func, 1, 8, [.nf]⟩) ∧
  (C0.T 70 = some ⟨.slice 74, 1, 24, [.ns]⟩) ∧
  (C0.T 71 = some ⟨.slice 75, 1, 24, [.ns]⟩) ∧
  (C0.T 72 = some ⟨.struct [(0, 1, 9), (1, 1, 29), (2, 1, 29), (3, 1, 29), (4, 1, 29), (5, 1, 29), (6, 1, 29), (7, 1, 29), (8, 1, 29), (9, 1, 9), (10, 1, 70), (11, 1, 71), (12, 1, 57)], 13, 168, [.s [], .i .u64 0, .i .u64 0, .i .u64 0, .i .u64 0, .i .u64 0, .i .u64 0, .i .u64 0, .i .u64 0, .s [], .ns, .ns, .ns]⟩) ∧
  (C0.T 73 = some ⟨.struct [(0, 1, 9), (1, 1, 29), (2, 1, 29), (3, 1, 29), (4, 1, 29), (5, 1, 29), (6, 1, 29), (7, 1, 29), (8, 1, 29), (9, 1, 9), (10, 1, 70), (11, 1, 71), (12, 1, 57)], 13, 168, [.s [], .i .u64 0, .i .u64 0, .i .u64 0, .i .u64 0, .i .u64 0, .i .u64 0, .i .u64 0, .i .u64 0, .s [], .ns, .ns, .ns]⟩) ∧
  (C0.T 74 = some ⟨.struct [(0, 1, 9), (1, 1, 29), (2, 1, 29), (3, 1, 29), (4, 1, 29), (5, 1, 29), (6, 1, 4)], 7, 64, [.s [], .i .u64 0, .i .u64 0, .i .u64 0, .i .u64 0, .i .u64 0, .b false]⟩) ∧
  (C0.T 75 = some ⟨.struct [(0, 1, 29), (1, 1, 29), (2, 1, 29), (3, 1, 29)], 4, 32, [.i .u64 0, .i .u64 0, .i .u64 0, .i .u64 0]⟩) ∧
  (C0.T 76 = some ⟨.func, 1, 8, [.nf]⟩) ∧
  (C0.T 77 = some ⟨.slice 3, 1, 24, [.ns]⟩) ∧
  (C0.T 78 = some ⟨.func, 1, 8, [.nf]⟩) ∧
  (C0.T 79 = some ⟨.slice 81, 1, 24, [.ns]⟩) ∧
  (C0.T 80 = some ⟨.func, 1, 8, [.nf]⟩) ∧
  (C0.T 81 = some ⟨.arr 2 3, 2, 16, [.i .i64 0, .i .i64 0]⟩) ∧
  (C0.T 82 = some ⟨.func, 1, 8, [.nf]⟩) ∧
  (C0.T 83 = some ⟨.struct [(0, 1, 9), (1, 1, 3), (2, 1, 3), (3, 1, 3), (4, 1, 9)], 5, 56, [.s [], .i .i64 0, .i .i64 0, .i .i64 0, .s []]⟩) ∧
  (C0.T 84 = some ⟨.struct [(0, 1, 9), (1, 1, 3), (2, 1, 3), (3, 1, 3), (4, 1, 9)], 5, 56, [.s [], .i .i64 0, .i .i64 0, .i .i64 0, .s []]⟩) ∧
  (C0.T 85 = some ⟨.func, 1, 8, [.nf]⟩) ∧
  (C0.T 87 = some ⟨.func, 1, 8, [.nf]⟩) ∧
  (C0.T 89 = some ⟨.func, 1, 8, [.nf]⟩) ∧
  (C0.T 90 = some ⟨.struct [(0, 1, 29), (1, 1, 29), (2, 1, 29), (3, 1, 29), (4, 1, 29), (5, 1, 29), (6, 1, 9)], 7, 64, [.i .u64 0, .i .u64 0, .i .u64 0, .i .u64 0, .i .u64 0, .i .u64 0, .s []]⟩) ∧
  (C0.T 91 = some ⟨.struct [(0, 1, 29), (1, 1, 29), (2, 1, 29), (3, 1, 29), (4, 1, 29), (5, 1, 29), (6, 1, 9)], 7, 64, [.i .u64 0, .i .u64 0, .i .u64 0, .i .u64 0, .i .u64 0, .i .u64 0, .s []]⟩) ∧
  (C0.T 92 = some ⟨.struct [(0, 1, 29), (1, 1, 29), (2, 1, 29), (3, 1, 29), (4, 1, 29), (5, 1, 29), (6, 1, 29), (7, 1, 29), (8, 1, 29), (9, 1, 29), (10, 1, 29), (11, 1, 29), (12, 1, 29)], 13, 104, [.i .u64 0, .i .u64 0, .i .u64 0, .i .u64 0, .i .u64 0, .i .u64 0, .i .u64 0, .i .u64 0, .i .u64 0, .i .u64 0, .i .u64 0, .i .u64 0, .i .u64 0]⟩) ∧
  (C0.T 93 = some ⟨.struct [(0, 1, 29), (1, 1, 29), (2, 1, 29), (3, 1, 29), (4, 1, 29), (5, 1, 29), (6, 1, 29), (7, 1, 29), (8, 1, 29), (9, 1, 29), (10, 1, 29), (11, 1, 29), (12, 1, 29)], 13, 104, [.i .u64 0, .i .u64 0, .i .u64 0, .i .u64 0, .i .u64 0, .i .u64 0, .i .u64 0, .i .u64 0, .i .u64 0, .i .u64 0, .i .u64 0, .i .u64 0, .i .u64 0]⟩) ∧
  (C0.T 94 = some ⟨.slice 146, 1, 24, [.ns]⟩) ∧
  (C0.T 95 = some ⟨.slice 147, 1, 24, [.ns]⟩) ∧
  (C0.T 96 = some ⟨.struct [(0, 5, 40), (5, 13, 93), (18, 1, 94), (19, 1, 95), (20, 1, 29)], 21, 184, [.b false, .b false, .i .u8 0, .i .u8 0, .s [], .i .u64 0, .i .u64 0, .i .u64 0, .i .u64 0, .i .u64 0, .i .u64 0, .i .u64 0, .i .u64 0, .i .u64 0, .i .u64 0, .i .u64 0, .i .u64 0, .i .u64 0, .ns, .ns, .i .u64 0]⟩) ∧
  (C0.T 97 = some ⟨.struct [(0, 5, 40), (5, 13, 93), (18, 1, 94), (19, 1, 95), (20, 1, 29)], 21, 184, [.b false, .b false, .i .u8 0, .i .u8 0, .s [], .i .u64 0, .i .u64 0, .i .u64 0, .i .u64 0, .i .u64 0, .i .u64 0, .i .u64 0, .i .u64 0, .i .u64 0, .i .u64 0, .i .u64 0, .i .u64 0, .i .u64 0, .ns, .ns, .i .u64 0]⟩) ∧
  (C0.T 99 = some ⟨.func, 1, 8, [.nf]⟩) ∧
  (C0.T 100 = some ⟨.ptr 102, 1, 8, [.np]⟩) ∧
  (C0.T 101 = some ⟨.struct [(0, 21, 97), (21, 1, 9), (22, 12, 44), (34, 1, 64)], 35, 336, [.b false, .b false, .i .u8 0, .i .u8 0, .s [], .i .u64 0, .i .u64 0, .i .u64 0, .i .u64 0, .i .u64 0, .i .u64 0, .i .u64 0, .i .u64 0, .i .u64 0, .i .u64 0, .i .u64 0, .i .u64 0, .i .u64 0, .ns, .ns, .i .u64 0, .s [], .b false, .b false, .i .u8 0, .i .u8 0, .s [], .i .u64 0, .i .u64 0, .i .u64 0, .i .u64 0, .i .u64 0, .ns, .ns, .ns]⟩) ∧
  (C0.T 102 = some ⟨.struct [(0, 21, 97), (21, 1, 9), (22, 12, 44), (34, 1, 64)], 35, 336, [.b false, .b false, .i .u8 0, .i .u8 0, .s [], .i .u64 0, .i .u64 0, .i .u64 0, .i .u64 0, .i .u64 0, .i .u64 0, .i .u64 0, .i .u64 0, .i .u64 0, .i .u64 0, .i .u64 0, .i .u64 0, .i .u64 0, .ns, .ns, .i .u64 0, .s [], .b false, .b false, .i .u8 0, .i .u8 0, .s [], .i .u64 0, .i .u64 0, .i .u64 0, .i .u64 0, .i .u64 0, .ns, .ns, .ns]⟩) ∧
  (C0.T 103 = some ⟨.func, 1, 8, [.nf]⟩) ∧
  (C0.T 104 = some ⟨.func, 1, 8, [.nf]⟩) ∧
  (C0.T 105 = some ⟨.slice 57, 1, 24, [.ns]⟩) ∧
  (C0.T 107 = some ⟨.func, 1, 8, [.nf]⟩) ∧
  (C0.T 108 = some ⟨.func, 1, 8, [.nf]⟩) ∧
  (C0.T 109 = some ⟨.struct [(0, 1, 29), (1, 1, 29), (2, 1, 29), (3, 1, 29), (4, 1, 29), (5, 1, 29), (6, 1, 29), (7, 1, 29), (8, 1, 29), (9, 1, 29)], 10, 80, [.i .u64 0, .i .u64 0, .i .u64 0, .i .u64 0, .i .u64 0, .i .u64 0, .i .u64 0, .i .u64 0, .i .u64 0, .i .u64 0]⟩) ∧
  (C0.T 110 = some ⟨.struct [(0, 1, 29), (1, 1, 29), (2, 1, 29), (3, 1, 29), (4, 1, 29), (5, 1, 29), (6, 1, 29), (7, 1, 29), (8, 1, 29), (9, 1, 29)], 10, 80, [.i .u64 0, .i .u64 0, .i .u64 0, .i .u64 0, .i .u64 0, .i .u64 0, .i .u64 0, .i .u64 0, .i .u64 0, .i .u64 0]⟩) ∧
  (C0.T 112 = some ⟨.func, 1, 8, [.nf]⟩) ∧
  (C0.T 113 = some ⟨.func, 1, 8, [.nf]⟩) ∧
  (C0.T 114 = some ⟨.struct [(0, 1, 29), (1, 1, 29), (2, 1, 29), (3, 1, 29), (4, 1, 29), (5, 1, 29), (6, 1, 29), (7, 1, 29)], 8, 64, [.i .u64 0, .i .u64 0, .i .u64 0, .i .u64 0, .i .u64 0, .i .u64 0, .i .u64 0, .i .u64 0]⟩) ∧
  (C0.T 115 = some ⟨.struct [(0, 1, 29), (1, 1, 29), (2, 1, 29), (3, 1, 29), (4, 1, 29), (5, 1, 29), (6, 1, 29), (7, 1, 29)], 8, 64, [.i .u64 0, .i .u64 0, .i .u64 0, .i .u64 0, .i .u64 0, .i .u64 0, .i .u64 0, .i .u64 0]⟩) ∧
  (C0.T 116 = some ⟨.struct [(0, 1, 29), (1, 1, 29), (2, 1, 29), (3, 1, 29), (4, 1, 29), (5, 1, 29), (6, 1, 29), (7, 1, 29), (8, 1, 29), (9, 1, 29), (10, 1, 29), (11, 1, 29), (12, 1, 29)], 13, 104, [.i .u64 0, .i .u64 0, .i .u64 0, .i .u64 0, .i .u64 0, .i .u64 0, .i .u64 0, .i .u64 0, .i .u64 0, .i .u64 0, .i .u64 0, .i .u64 0, .i .u64 0]⟩) ∧
  (C0.T 117 = some ⟨.func, 1, 8, [.nf]⟩) ∧
  (C0.T 118 = some ⟨.func, 1, 8, [.nf]⟩) ∧
  (C0.T 119 = some ⟨.func, 1, 8, [.nf]⟩) ∧
  (C0.T 120 = some ⟨.struct [(0, 1, 29), (1, 1, 29), (2, 1, 29), (3, 1, 29), (4, 1, 29), (5, 1, 29), (6, 1, 9)], 7, 64, [.i .u64 0, .i .u64 0, .i .u64 0, .i .u64 0, .i .u64 0, .i .u64 0, .s []]⟩) ∧
  (C0.T 121 = some ⟨.func, 1, 8, [.nf]⟩) ∧
  (C0.T 122 = some ⟨.func, 1, 8, [.nf]⟩) ∧
  (C0.T 123 = some ⟨.func, 1, 8, [.nf]⟩) ∧
  (C0.T 124 = some ⟨.ptr 73, 1, 8, [.np]⟩) ∧
  (C0.T 125 = some ⟨.func, 1, 8, [.nf]⟩) ∧
  (C0.T 126 = some ⟨.func, 1, 8, [.nf]⟩) ∧
  (C0.T 127 = some ⟨.func, 1, 8, [.nf]⟩) ∧
  (C0.T 128 = some ⟨.func, 1, 8, [.nf]⟩) ∧
  (C0.T 129 = some ⟨.func, 1, 8, [.nf]⟩) ∧
  (C0.T 130 = some ⟨.func, 1, 8, [.nf]⟩) ∧
  (C0.T 131 = some ⟨.struct [(0, 1, 29), (1, 1, 29), (2, 1, 29), (3, 1, 29), (4, 1, 29), (5, 1, 29)], 6, 48, [.i .u64 0, .i .u64 0, .i .u64 0, .i .u64 0, .i .u64 0, .i .u64 0]⟩) ∧
  (C0.T 132 = some ⟨.struct [(0, 1, 29), (1, 1, 29), (2, 1, 29), (3, 1, 29), (4, 1, 29), (5, 1, 29)], 6, 48, [.i .u64 0, .i .u64 0, .i .u64 0, .i .u64 0, .i .u64 0, .i .u64 0]⟩) ∧
  (C0.T 133 = some ⟨.func, 1, 8, [.nf]⟩) ∧
  (C0.T 134 = some ⟨.func, 1, 8, [.nf]⟩) ∧
  (C0.T 135 = some ⟨.int .u64, 1, 8, [.i .u64 0]⟩) ∧
  (C0.T 137 = some ⟨.func, 1, 8, [.nf]⟩) ∧
  (C0.T 139 = some ⟨.func, 1, 8, [.nf]⟩) ∧
  (C0.T 140 = some ⟨.ptr 97, 1, 8, [.np]⟩) ∧
  (C0.T 141 = some ⟨.func, 1, 8, [.nf]⟩) ∧
  (C0.T 142 = some ⟨.func, 1, 8, [.nf]⟩) ∧
  (C0.T 143 = some ⟨.arr 4 142, 4, 32, [.nf, .nf, .nf, .nf]⟩) ∧
  (C0.T 145 = some ⟨.func, 1, 8, [.nf]⟩) ∧
  (C0.T 146 = some ⟨.struct [(0, 1, 29), (1, 1, 29), (2, 1, 29), (3, 1, 29), (4, 1, 29), (5, 1, 29), (6, 1, 29), (7, 1, 29), (8, 1, 29), (9, 1, 29)], 10, 80, [.i .u64 0, .i .u64 0, .i .u64 0, .i .u64 0, .i .u64 0, .i .u64 0, .i .u64 0, .i .u64 0, .i .u64 0, .i .u64 0]⟩) ∧
  (C0.T 147 = some ⟨.struct [(0, 1, 29), (1, 1, 29), (2, 1, 29), (3, 1, 29), (4, 1, 29), (5, 1, 29), (6, 1, 29), (7, 1, 29)], 8, 64, [.i .u64 0, .i .u64 0, .i .u64 0, .i .u64 0, .i .u64 0, .i .u64 0, .i .u64 0, .i .u64 0]⟩) ∧
  (C0.T 148 = some ⟨.func, 1, 8, [.nf]⟩) ∧
  (C0.T 149 = some ⟨.func, 1, 8, [.nf]⟩) ∧
  (C0.T 150 = some ⟨.func, 1, 8, [.nf]⟩) ∧
  (C0.T 151 = some ⟨.func, 1, 8, [.nf]⟩) ∧
  (C0.T 152 = some ⟨.slice 5, 1, 24, [.ns]⟩) ∧
  (C0.T 153 = some ⟨.func, 1, 8, [.nf]⟩) ∧
  (C0.T 155 = some ⟨.func, 1, 8, [.nf]⟩) ∧
  (C0.T 156 = some ⟨.func, 1, 8, [.nf]⟩) ∧
  (C0.T 157 = some ⟨.slice 162, 1, 24, [.ns]⟩) ∧
  (C0.T 159 = some ⟨.func, 1, 8, [.nf]⟩) ∧
  (C0.T 160 = some ⟨.ptr 206, 1, 8, [.np]⟩) ∧
  (C0.T 161 = some ⟨.func, 1, 8, [.nf]⟩) ∧
  (C0.T 162 = some ⟨.ptr 29, 1, 8, [.np]⟩) ∧
  (C0.T 163 = some ⟨.func, 1, 8, [.nf]⟩) ∧
  (C0.T 164 = some ⟨.func, 1, 8, [.nf]⟩) ∧
  (C0.T 165 = some ⟨.func, 1, 8, [.nf]⟩) ∧
  (C0.T 166 = some ⟨.func, 1, 8, [.nf]⟩) ∧
  (C0.T 168 = some ⟨.func, 1, 8, [.nf]⟩) ∧
  (C0.T 169 = some ⟨.func, 1, 8, [.nf]⟩) ∧
  (C0.T 170 = some ⟨.func, 1, 8, [.nf]⟩) ∧
  (C0.T 171 = some ⟨.func, 1, 8, [.nf]⟩) ∧
  (C0.T 172 = some ⟨.func, 1, 8, [.nf]⟩) ∧
  (C0.T 173 = some ⟨.struct [(0, 1, 29), (1, 1, 29)], 2, 16, [.i .u64 0, .i .u64 0]⟩) ∧
  (C0.T 174 = some ⟨.struct [(0, 1, 29), (1, 1, 29)], 2, 16, [.i .u64 0, .i .u64 0]⟩) ∧
  (C0.T 175 = some ⟨.func, 1, 8, [.nf]⟩) ∧
  (C0.T 176 = some ⟨.func, 1, 8, [.nf]⟩) ∧
  (C0.T 178 = some ⟨.func, 1, 8, [.nf]⟩) ∧
  (C0.T 179 = some ⟨.func, 1, 8, [.nf]⟩) ∧
  (C0.T 180 = some ⟨.func, 1, 8, [.nf]⟩) ∧
  (C0.T 181 = some ⟨.func, 1, 8, [.nf]⟩) ∧
  (C0.T 182 = some ⟨.func, 1, 8, [.nf]⟩) ∧
  (C0.T 183 = some ⟨.func, 1, 8, [.nf]⟩) ∧
  (C0.T 184 = some ⟨.func, 1, 8, [.nf]⟩) ∧
  (C0.T 186 = some ⟨.func, 1, 8, [.nf]⟩) ∧
  (C0.T 187 = some ⟨.struct [(0, 1, 29), (1, 1, 29), (2, 1, 29), (3, 1, 29), (4, 1, 29), (5, 1, 29)], 6, 48, [.i .u64 0, .i .u64 0, .i .u64 0, .i .u64 0, .i .u64 0, .i .u64 0]⟩) ∧
  (C0.T 189 = some ⟨.func, 1, 8, [.nf]⟩) ∧
  (C0.T 191 = some ⟨.func, 1, 8, [.nf]⟩) ∧
  (C0.T 193 = some ⟨.func, 1, 8, [.nf]⟩) ∧
  (C0.T 194 = some ⟨.func, 1, 8, [.nf]⟩) ∧
  (C0.T 195 = some ⟨.func, 1, 8, [.nf]⟩) ∧
  (C0.T 197 = some ⟨.func, 1, 8, [.nf]⟩) ∧
  (C0.T 198 = some ⟨.func, 1, 8, [.nf]⟩) ∧
  (C0.T 199 = some ⟨.func, 1, 8, [.nf]⟩) ∧
  (C0.T 200 = some ⟨.ptr 93, 1, 8, [.np]⟩) ∧
  (C0.T 202 = some ⟨.func, 1, 8, [.nf]⟩) ∧
  (C0.T 203 = some ⟨.arr 13 3, 13, 104, [.i .i64 0, .i .i64 0, .i .i64 0, .i .i64 0, .i .i64 0, .i .i64 0, .i .i64 0, .i .i64 0, .i .i64 0, .i .i64 0, .i .i64 0, .i .i64 0, .i .i64 0]⟩) ∧
  (C0.T 204 = some ⟨.func, 1, 8, [.nf]⟩) ∧
  (C0.T 205 = some ⟨.struct [(0, 1, 36), (1, 1, 9), (2, 1, 29), (3, 1, 4)], 4, 40, [.b false, .s [], .i .u64 0, .b false]⟩) ∧
  (C0.T 206 = some ⟨.struct [(0, 1, 36), (1, 1, 9), (2, 1, 29), (3, 1, 4)], 4, 40, [.b false, .s [], .i .u64 0, .b false]⟩) ∧
  (C0.T 207 = some ⟨.func, 1, 8, [.nf]⟩) ∧
  (C0.T 208 = some ⟨.func, 1, 8, [.nf]⟩) ∧
  (C0.T 209 = some ⟨.ptr 146, 1, 8, [.np]⟩) ∧
  (C0.T 210 = some ⟨.func, 1, 8, [.nf]⟩) ∧
  (C0.T 211 = some ⟨.ptr 147, 1, 8, [.np]⟩) ∧
  (C0.T 213 = some ⟨.func, 1, 8, [.nf]⟩) ∧
  (C0.T 214 = some ⟨.func, 1, 8, [.nf]⟩) ∧
  (C0.T 215 = some ⟨.func, 1, 8, [.nf]⟩) ∧
  (C0.T 216 = some ⟨.func, 1, 8, [.nf]⟩) ∧
  (C0.T 217 = some ⟨.ptr 187, 1, 8, [.np]⟩) ∧
  (C0.T 218 = some ⟨.func, 1, 8, [.nf]⟩) ∧
  (C0.T 222 = some ⟨.func, 1, 8, [.nf]⟩) ∧
  (C0.T 223 = some ⟨.func, 1, 8, [.nf]⟩) ∧
  (C0.T 224 = some ⟨.ptr 220, 1, 8, [.np]⟩) ∧
  (C0.T 226 = some ⟨.func, 1, 8, [.nf]⟩) ∧
  (C0.T 227 = some ⟨.func, 1, 8, [.nf]⟩) ∧
  (C0.T 228 = some ⟨.func, 1, 8, [.nf]⟩) ∧
  (C0.T 229 = some ⟨.func, 1, 8, [.nf]⟩) ∧
  (C0.T 230 = some ⟨.func, 1, 8, [.nf]⟩) ∧
  (C0.T 231 = some ⟨.func, 1, 8, [.nf]⟩) ∧
  (C0.T 233 = some ⟨.func, 1, 8, [.nf]⟩) ∧
  (C0.T 234 = some ⟨.func, 1, 8, [.nf]⟩) ∧
  (C0.T 235 = some ⟨.func, 1, 8, [.nf]⟩) ∧
  (C0.T 236 = some ⟨.arr 10 3, 10, 80, [.i .i64 0, .i .i64 0, .i .i64 0, .i .i64 0, .i .i64 0, .i .i64 0, .i .i64 0, .i .i64 0, .i .i64 0, .i .i64 0]⟩) ∧
  (C0.T 238 = some ⟨.func, 1, 8, [.nf]⟩) ∧
  (C0.T 239 = some ⟨.arr 8 3, 8, 64, [.i .i64 0, .i .i64 0, .i .i64 0, .i .i64 0, .i .i64 0, .i .i64 0, .i .i64 0, .i .i64 0]⟩) ∧
  (C0.T 240 = some ⟨.func, 1, 8, [.nf]⟩) ∧
  (C0.T 242 = some ⟨.func, 1, 8, [.nf]⟩) ∧
  (C0.T 243 = some ⟨.arr 6 3, 6, 48, [.i .i64 0, .i .i64 0, .i .i64 0, .i .i64 0, .i .i64 0, .i .i64 0]⟩) ∧
  (C0.T 244 = some ⟨.func, 1, 8, [.nf]⟩) ∧
  (C0.T 246 = some ⟨.func, 1, 8, [.nf]⟩) ∧
  (C0.T 247 = some ⟨.func, 1, 8, [.nf]⟩) ∧
  (C0.T 248 = some ⟨.func, 1, 8, [.nf]⟩) ∧
  (C0.T 249 = some ⟨.func, 1, 8, [.nf]⟩) ∧
  (C0.T 250 = some ⟨.func, 1, 8, [.nf]⟩) ∧
  (C0.T 252 = some ⟨.struct [(0, 1, 5), (1, 1, 5)], 2, 2, [.i .u8 0, .i .u8 0]⟩) ∧
  (C0.T 253 = some ⟨.struct [(0, 1, 5), (1, 1, 5)], 2, 2, [.i .u8 0, .i .u8 0]⟩) ∧
  (C0.T 254 = some ⟨.arr 16 253, 32, 32, [.i .u8 0, .i .u8 0, .i .u8 0, .i .u8 0, .i .u8 0, .i .u8 0, .i .u8 0, .i .u8 0, .i .u8 0, .i .u8 0, .i .u8 0, .i .u8 0, .i .u8 0, .i .u8 0, .i .u8 0, .i .u8 0, .i .u8 0, .i .u8 0, .i .u8 0, .i .u8 0, .i .u8 0, .i .u8 0, .i .u8 0, .i .u8 0, .i .u8 0, .i .u8 0, .i .u8 0, .i .u8 0, .i .u8 0, .i .u8 0, .i .u8 0, .i .u8 0]⟩) ∧
  (C0.T 255 = some ⟨.func, 1, 8, [.nf]⟩) ∧
  (C0.T 256 = some ⟨.func, 1, 8, [.nf]⟩) ∧
  (C0.T 257 = some ⟨.func, 1, 8, [.nf]⟩) ∧
  (C0.T 258 = some ⟨.int .u32, 1, 4, [.i .u32 0]⟩) ∧
  (C0.T 260 = some ⟨.func, 1, 8, [.nf]⟩) ∧
  (C0.T 261 = some ⟨.func, 1, 8, [.nf]⟩) ∧
  (C0.T 262 = some ⟨.struct [(0, 1, 17), (1, 1, 17), (2, 1, 17), (3, 1, 9)], 4, 40, [.np, .np, .np, .s []]⟩) ∧
  (C0.T 263 = some ⟨.struct [(0, 1, 17), (1, 1, 17), (2, 1, 17), (3, 1, 9)], 4, 40, [.np, .np, .np, .s []]⟩) ∧
  (C0.T 264 = some ⟨.arr 0 16, 0, 0, []⟩) ∧
  (C0.T 265 = some ⟨.struct [(0, 0, 264)], 0, 0, []⟩) ∧
  (C0.T 266 = some ⟨.struct [(0, 0, 264)], 0, 0, []⟩) ∧
  (C0.T 267 = some ⟨.int .u8, 1, 1, [.i .u8 0]⟩) ∧
  (C0.T 268 = some ⟨.int .u8, 1, 1, [.i .u8 0]⟩) ∧
  (C0.T 269 = some ⟨.func, 1, 8, [.nf]⟩) ∧
  (C0.T 270 = some ⟨.ptr 5, 1, 8, [.np]⟩) ∧
  (C0.T 271 = some ⟨.int .i32, 1, 4, [.i .i32 0]⟩) ∧
  (C0.T 272 = some ⟨.int .i32, 1, 4, [.i .i32 0]⟩) ∧
  (C0.T 273 = some ⟨.struct [(0, 1, 12), (1, 1, 12), (2, 1, 258), (3, 1, 267), (4, 1, 5), (5, 1, 5), (6, 1, 268), (7, 1, 269), (8, 1, 270), (9, 1, 271), (10, 1, 272)], 11, 48, [.i .u64 0, .i .u64 0, .i .u32 0, .i .u8 0, .i .u8 0, .i .u8 0, .i .u8 0, .nf, .np, .i .i32 0, .i .i32 0]⟩) ∧
  (C0.T 274 = some ⟨.struct [(0, 1, 12), (1, 1, 12), (2, 1, 258), (3, 1, 267), (4, 1, 5), (5, 1, 5), (6, 1, 268), (7, 1, 269), (8, 1, 270), (9, 1, 271), (10, 1, 272)], 11, 48, [.i .u64 0, .i .u64 0, .i .u32 0, .i .u8 0, .i .u8 0, .i .u8 0, .i .u8 0, .nf, .np, .i .i32 0, .i .i32 0]⟩) ∧
  (C0.T 275 = some ⟨.func, 1, 8, [.nf]⟩) ∧
  (C0.T 276 = some ⟨.func, 1, 8, [.nf]⟩) ∧
  (C0.T 277 = some ⟨.other, 1, 8, [.np]⟩) ∧
  (C0.E 35 = true) ∧
  (C0.E 36 = true) ∧
  (C0.E 37 = true) ∧
  (C0.E 38 = true) ∧
  (C0.E 39 = true) ∧
  (C0.E 40 = true) ∧
  (C0.E 52 = true) ∧
  (C0.E 53 = true) ∧
  (C0.E 54 = true) ∧
  (C0.E 60 = true) ∧
  (C0.E 61 = true) ∧
  (C0.E 62 = true) ∧
  (C0.E 63 = true) ∧
  (C0.E 74 = true) ∧
  (C0.E 75 = true) ∧
  (C0.E 81 = true) ∧
  (C0.E 83 = true) ∧
  (C0.E 84 = true) ∧
  (C0.E 90 = true) ∧
  (C0.E 91 = true) ∧
  (C0.E 92 = true) ∧
  (C0.E 93 = true) ∧
  (C0.E 109 = true) ∧
  (C0.E 110 = true) ∧
  (C0.E 114 = true) ∧
  (C0.E 115 = true) ∧
  (C0.E 116 = true) ∧
  (C0.E 120 = true) ∧
  (C0.E 131 = true) ∧
  (C0.E 132 = true) ∧
  (C0.E 146 = true) ∧
  (C0.E 147 = true) ∧
  (C0.E 173 = true) ∧
  (C0.E 174 = true) ∧
  (C0.E 187 = true) ∧
  (C0.E 203 = true) ∧
  (C0.E 205 = true) ∧
  (C0.E 206 = true) ∧
  (C0.E 219 = true) ∧
  (C0.E 220 = true) ∧
  (C0.E 236 = true) ∧
  (C0.E 239 = true) ∧
  (C0.E 243 = true) ∧
  (C0.E 251 = true) ∧
  (C0.nG = 9) :=
  ⟨ty1, ty2, ty3, ty4, ty5, ty6, ty7, ty8, ty9, ty10, ty11, ty12, ty13, ty14, ty15, ty16, ty17, ty18, ty19, ty20, ty21, ty22, ty23, ty24, ty25, ty26, ty27, ty28, ty29, ty30, ty31, ty32, ty33, ty34, ty35, ty36, ty37, ty38, ty39, ty40, ty41, ty42, ty43, ty44, ty45, ty47, ty48, ty49, ty50, ty51, ty52, ty53, ty54, ty55, ty56, ty57, ty58, ty59, ty60, ty61, ty62, ty63, ty64, ty65, ty67, ty68, ty69, ty70, ty71, ty72, ty73, ty74, ty75, ty76, ty77, ty78, ty79, ty80, ty81, ty82, ty83, ty84, ty85, ty87, ty89, ty90, ty91, ty92, ty93, ty94, ty95, ty96, ty97, ty99, ty100, ty101, ty102, ty103, ty104, ty105, ty107, ty108, ty109, ty110, ty112, ty113, ty114, ty115, ty116, ty117, ty118, ty119, ty120, ty121, ty122, ty123, ty124, ty125, ty126, ty127, ty128, ty129, ty130, ty131, ty132, ty133, ty134, ty135, ty137, ty139, ty140, ty141, ty142, ty143, ty145, ty146, ty147, ty148, ty149, ty150, ty151, ty152, ty153, ty155, ty156, ty157, ty159, ty160, ty161, ty162, ty163, ty164, ty165, ty166, ty168, ty169, ty170, ty171, ty172, ty173, ty174, ty175, ty176, ty178, ty179, ty180, ty181, ty182, ty183, ty184, ty186, ty187, ty189, ty191, ty193, ty194, ty195, ty197, ty198, ty199, ty200, ty202, ty203, ty204, ty205, ty206, ty207, ty208, ty209, ty210, ty211, ty213, ty214, ty215, ty216, ty217, ty218, ty222, ty223, ty224, ty226, ty227, ty228, ty229, ty230, ty231, ty233, ty234, ty235, ty236, ty238, ty239, ty240, ty242, ty243, ty244, ty246, ty247, ty248, ty249, ty250, ty252, ty253, ty254, ty255, ty256, ty257, ty258, ty260, ty261, ty262, ty263, ty264, ty265, ty266, ty267, ty268, ty269, ty270, ty271, ty272, ty273, ty274, ty275, ty276, ty277, eq35, eq36, eq37, eq38, eq39, eq40, eq52, eq53, eq54, eq60, eq61, eq62, eq63, eq74, eq75, eq81, eq83, eq84, eq90, eq91, eq92, eq93, eq109, eq110, eq114, eq115, eq116, eq120, eq131, eq132, eq146, eq147, eq173, eq174, eq187, eq203, eq205, eq206, eq219, eq220, eq236, eq239, eq243, eq251, C0_nG⟩
end Go.Proofs.YtnladombaepkkaaGreatDoor
