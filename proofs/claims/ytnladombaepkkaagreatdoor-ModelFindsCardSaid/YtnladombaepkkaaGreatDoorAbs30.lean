/- The abstract machine: a heap and all that came behind it, as one list. Conditions: none. -/
import Derived.Test.YtnladombaepkkaaGreatDoorAbs29
set_option linter.all false
namespace Go.Abs
open Go
namespace Heap
def push (h : Heap) (x : Option Blk) : Heap := ⟨h.next + 1, h.t.put h.next x⟩
def setO (h : Heap) (b : Nat) (x : Option Blk) : Heap := ⟨h.next, h.t.put b x⟩
def grow : Heap → List (Option Blk) → Heap
  | h, [] => h
  | h, x :: l => grow (h.push x) l
theorem next_setO (h : Heap) (b : Nat) (x : Option Blk) : (h.setO b x).next = h.next := id rfl
theorem next_set' (h : Heap) (b : Nat) (x : Blk) : (h.set b x).next = h.next := id rfl
theorem next_grow : ∀ (h : Heap) (l : List (Option Blk)), (h.grow l).next = h.next + l.length
  | _, [] => rfl
  | h, x :: l => by
    have := next_grow (h.push x) l
    simp only [grow, this, List.length_cons]
    simp only [push]; omega
theorem grow_grow : ∀ (h : Heap) (l m : List (Option Blk)), (h.grow l).grow m = h.grow (l ++ m)
  | _, [], _ => rfl
  | h, x :: l, m => grow_grow (h.push x) l m
theorem alloc_grow (h : Heap) (x : Blk) : h.alloc x = h.grow [some x] := rfl
theorem setO_push_ne (h : Heap) {b : Nat} (x y : Option Blk) (hb : b ≠ h.next) : (h.push x).setO b y = (h.setO b y).push x := by
  simp only [push, setO]
  rw [Tr.put_comm _ _ _ _ _ _ (Nat.le_refl _) (fun e => hb e.symm)]
theorem setO_push_self (h : Heap) (x y : Option Blk) : (h.push x).setO h.next y = h.push y := by
  simp only [push, setO, Tr.put_put_self]
theorem setO_grow_old : ∀ (l : List (Option Blk)) (h : Heap) {b : Nat} (y : Option Blk), b < h.next → (h.grow l).setO b y = (h.setO b y).grow l
  | [], _, _, _, _ => rfl
  | x :: l, h, b, y, hb => by
    simp only [grow]
    rw [setO_grow_old l (h.push x) y (by simp only [push]; omega), setO_push_ne h x y (by omega)]
theorem setO_grow : ∀ (l : List (Option Blk)) (h : Heap) (i : Nat) (y : Option Blk), i < l.length → (h.grow l).setO (h.next + i) y = h.grow (l.set i y)
  | [], _, _, _, hi => by simp at hi
  | x :: l, h, 0, y, _ => by
    simp only [grow, Nat.add_zero, List.set_cons_zero]
    rw [setO_grow_old l (h.push x) y (by simp only [push]; omega), setO_push_self]
  | x :: l, h, i + 1, y, hi => by
    simp only [grow, List.set_cons_succ]
    have := setO_grow l (h.push x) i y (by simpa using hi)
    rw [← this]
    simp only [push]
    congr 1
    omega
theorem set_grow (l : List (Option Blk)) (h : Heap) (i : Nat) (y : Blk) (hi : i < l.length) : (h.grow l).set (h.next + i) y = h.grow (l.set i (some y)) := setO_grow l h i (some y) hi
theorem set_grow0 (x : Option Blk) (l : List (Option Blk)) (h : Heap) (y : Blk) : (h.grow (x :: l)).set h.next y = h.grow (some y :: l) := setO_grow (x :: l) h 0 (some y) (by simp)
theorem set_grow_old (l : List (Option Blk)) (h : Heap) {b : Nat} (y : Blk) (hb : b < h.next) : (h.grow l).set b y = (h.set b y).grow l := setO_grow_old l h (some y) hb
theorem turn_setO (h : Heap) (b : Nat) (x : Blk) : h.turn b x = (h.setO b none).push (some x) := rfl
theorem turn_grow (l : List (Option Blk)) (h : Heap) (i : Nat) (y : Blk) (hi : i < l.length) : (h.grow l).turn (h.next + i) y = h.grow (l.set i none ++ [some y]) := by
  rw [turn_setO, setO_grow l h i none hi, ← grow_grow]; rfl
theorem turn_grow0 (x : Option Blk) (l : List (Option Blk)) (h : Heap) (y : Blk) : (h.grow (x :: l)).turn h.next y = h.grow (none :: (l ++ [some y])) := turn_grow (x :: l) h 0 y (by simp)
theorem turn_grow_old (l : List (Option Blk)) (h : Heap) {b : Nat} (y : Blk) (hb : b < h.next) : (h.grow l).turn b y = (h.setO b none).grow (l ++ [some y]) := by
  rw [turn_setO, setO_grow_old l h none hb, ← grow_grow]; rfl
theorem get_push (h : Heap) (x : Option Blk) (j : Nat) : (h.push x).get j = if j = h.next then x else h.get j := by
  simp only [get_if, push, Tr.get_put]
  by_cases hj : j = h.next
  · subst hj; simp
  · have hj' : ¬ h.next = j := fun e => hj e.symm
    simp only [hj, hj', if_false]
    by_cases h1 : j < h.next
    · rw [if_pos (by omega), if_pos h1]
    · rw [if_neg (by omega), if_neg h1]
theorem get_grow_old : ∀ (l : List (Option Blk)) (h : Heap) {b : Nat}, b < h.next → (h.grow l).get b = h.get b
  | [], _, _, _ => rfl
  | x :: l, h, b, hb => by
    simp only [grow]
    rw [get_grow_old l (h.push x) (by simp only [push]; omega), get_push, if_neg (by omega)]
theorem get_grow : ∀ (l : List (Option Blk)) (h : Heap) (i : Nat), (h.grow l).get (h.next + i) = l.getD i none
  | [], h, i => by simp only [grow]; rw [get_if, if_neg (by omega)]; rfl
  | x :: l, h, 0 => by
    simp only [grow, Nat.add_zero]
    rw [get_grow_old l (h.push x) (by simp only [push]; omega), get_push, if_pos rfl]; rfl
  | x :: l, h, i + 1 => by
    have := get_grow l (h.push x) i
    simp only [grow]
    rw [show h.next + (i + 1) = (h.push x).next + i by simp only [push]; omega, this]; rfl
theorem get_grow0 (l : List (Option Blk)) (h : Heap) : (h.grow l).get h.next = l.getD 0 none := get_grow l h 0
theorem get_setO_ne (h : Heap) {b c : Nat} (x : Option Blk) (hn : b ≠ c) : (h.setO b x).get c = h.get c := by
  simp only [get_if, setO, Tr.get_put, if_neg hn]
theorem Sub.grow {H H' : Heap} (h : H.Sub H') (l : List (Option Blk)) : H.Sub (H'.grow l) := fun b x hb => by
  have := h b x hb
  rw [get_grow_old l H' (lt_of_get this)]; exact this
theorem Sub.setO {H H' : Heap} (h : H.Sub H') {b : Nat} (hb : H.next ≤ b) (x : Option Blk) : H.Sub (H'.setO b x) := fun c y hc => by
  rw [get_setO_ne H' x (by have := lt_of_get hc; omega)]; exact h c y hc
theorem sub_grow (H : Heap) (l : List (Option Blk)) : H.Sub (H.grow l) := (Sub.refl H).grow l
end Heap
theorem mk_alloc {C : Cfg} {ρ : Operand → Option AV} {e : TypeId} {ei : TI} (h : C.T e = some ei) : mk C ρ (.alloc e) = some (.p 0 0, ⟨ei.zero, true⟩) := by
  simp only [mk, maker, amake, h, cond_true]
  rfl
end Go.Abs
