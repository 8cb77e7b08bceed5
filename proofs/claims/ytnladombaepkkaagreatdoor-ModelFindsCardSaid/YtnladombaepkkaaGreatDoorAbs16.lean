/- The abstract machine: a region that draws its order is answered as in one order, in whatever order the model takes. Conditions: none. -/
import Derived.Test.YtnladombaepkkaaGreatDoorAbs15
set_option linter.all false
namespace Go.Abs
open Go

/-- An operation of the order: its number, the operations that stand before it (a mask), and those that are looked at again behind it. -/
abbrev DI := Nat × Nat × List Nat × Bool

def gval (ops : Array Oper) (tm : TM) (o : Oper) : Option Bool :=
  match o.guard with
  | none => some true
  | some (g, want) => match ((ops[g]?).bind (·.dst)).bind tm.get with | some (.b x) => some (x == want) | some (.tu []) => some false | _ => none

/-- An operation gives again what it gave. -/
def remake (C : Cfg) (tm : TM) (H : Heap) (o : Oper) : Prop :=
  match aval C H (aev C tm) o.op with
  | some v => match o.dst with | some d => tm.get d = some v | none => True
  | none =>
    match mk C (aev C tm) o.op, o.dst with
    | some (v, B), some d => ∃ b, H.get b = some B ∧ tm.get d = some (v.rebase b)
    | _, _ => False

def achk (C : Cfg) (ops : Array Oper) (tm : TM) (H : Heap) : List Nat → Prop
  | [] => True
  | j :: l => (match ops[j]? with | some o => (gval ops tm o = some false ∨ (gval ops tm o = some true ∧ remake C tm H o)) | none => False) ∧ achk C ops tm H l

def adraw (P : Program) (C : Cfg) (nt : Nat) (ops : Array Oper) (K : TM → Heap → Prop) : List DI → TM → Heap → Prop
  | [], tm, H => K tm H
  | x :: rest, tm, H =>
    match ops[x.1]? with
    | none => False
    | some o =>
      match gval ops tm o with
      | some true => aop P C nt o (fun tm' H' => achk C ops tm' H' x.2.2.1 ∧ adraw P C nt ops K rest tm' H') tm H
      | some false => aput nt o.dst (some (.tu [])) tm (fun tm' => achk C ops tm' H x.2.2.1 ∧ adraw P C nt ops K rest tm' H)
      | none => False

def depsOf (o : Oper) : List Nat := (o.after.toList.filter (Region.binds .any ·)).map (·.on)
def opAt (ops : Array Oper) (i : Nat) : Oper := ops.getD i default
def mkr (o : Oper) : Bool := maker o.op
/-- May it be done as early as its operands are there? -/
def lm (ops : Array Oper) (x : DI) : Bool := mild (opAt ops x.1).op && !x.2.2.2

/-- One operation of the order, behind those that stand ahead of it. -/
def vone (ops : Array Oper) (pre : List DI) (x : DI) : Bool :=
  let o := opAt ops x.1
  Nat.blt x.1 ops.size && !(pre.any fun y => y.1 == x.1) &&
  (depsOf o).all (fun d => pre.any fun y => y.1 == d) &&
  (List.range ops.size).all (fun j => !x.2.1.testBit j || (depsOf o).any fun d => d == j || pre.any fun y => y.1 == d && y.2.1.testBit j) &&
  (o.looksAt ops).all (fun t => pre.all fun y => (opAt ops y.1).dst != some t || x.2.1.testBit y.1) &&
  pre.all (fun y => lm ops y || x.2.1.testBit y.1) &&
  (lm ops x || pre.all fun y => pureOp (opAt ops y.1).op && !mkr (opAt ops y.1) || x.2.1.testBit y.1 || x.2.2.1.contains y.1) &&
  (match o.dst with | some d => pre.all fun y => (opAt ops y.1).dst != some d | none => !mkr o) &&
  (lm ops x && x.2.2.1.isEmpty || !lm ops x) &&
  Nat.blt x.2.1 (2 ^ ops.size) &&
  (match o.dst with | some d => !(o.looksAt ops).contains d && pre.all fun y => !((opAt ops y.1).looksAt ops).contains d || (!lm ops x && x.2.1.testBit y.1) | none => true)
def vgo (ops : Array Oper) : List DI → List DI → Bool
  | _, [] => true
  | pre, x :: post => vone ops pre x && vgo ops (x :: pre) post
def vdraw (ops : Array Oper) (l : List DI) : Bool := (List.range ops.size).all (fun i => l.any fun x => x.1 == i) && vgo ops [] l

structure VOne (ops : Array Oper) (pre : List DI) (x : DI) : Prop where
  lt : x.1 < ops.size
  new : ∀ y ∈ pre, y.1 ≠ x.1
  deps : ∀ d ∈ depsOf (opAt ops x.1), ∃ y ∈ pre, y.1 = d
  mask : ∀ j, x.2.1.testBit j = true → ∃ d ∈ depsOf (opAt ops x.1), d = j ∨ ∃ y ∈ pre, y.1 = d ∧ y.2.1.testBit j = true
  reads : ∀ t ∈ (opAt ops x.1).looksAt ops, ∀ y ∈ pre, (opAt ops y.1).dst = some t → x.2.1.testBit y.1 = true
  loud : ∀ y ∈ pre, lm ops y = false → x.2.1.testBit y.1 = true
  chk : lm ops x = false → ∀ y ∈ pre, pureOp (opAt ops y.1).op = false ∨ mkr (opAt ops y.1) = true → x.2.1.testBit y.1 = false → y.1 ∈ x.2.2.1
  dst : ∀ d, (opAt ops x.1).dst = some d → ∀ y ∈ pre, (opAt ops y.1).dst ≠ some d
  mdst : mkr (opAt ops x.1) = true → (opAt ops x.1).dst.isSome = true
  none : lm ops x = true → x.2.2.1 = []
  own : ∀ d, (opAt ops x.1).dst = some d → d ∉ (opAt ops x.1).looksAt ops
  anti : ∀ d, (opAt ops x.1).dst = some d → ∀ y ∈ pre, d ∈ (opAt ops y.1).looksAt ops → lm ops x = false ∧ x.2.1.testBit y.1 = true

theorem vone_ok {ops : Array Oper} {pre : List DI} {x : DI} (h : vone ops pre x = true) : VOne ops pre x := by
  simp only [vone, Bool.and_eq_true] at h
  obtain ⟨⟨⟨⟨⟨⟨⟨⟨⟨⟨h1, h2⟩, h3⟩, h4⟩, h5⟩, h6⟩, h7⟩, h8⟩, h9⟩, h10⟩, h11⟩ := h
  have hlt : x.1 < ops.size := by simpa [Nat.blt_eq] using h1
  refine ⟨hlt, ?_, ?_, ?_, ?_, ?_, ?_, ?_, ?_, ?_, ?_, ?_⟩
  · intro y hy he
    simp only [Bool.not_eq_true', List.any_eq_false, beq_iff_eq] at h2
    exact h2 y hy he
  · intro d hd
    have := List.all_eq_true.1 h3 d hd
    simpa using this
  · intro j hj
    have hjn : j < ops.size := by
      rcases Nat.lt_or_ge j ops.size with h | h
      · exact h
      · have h10' : x.2.1 < 2 ^ ops.size := by simpa [Nat.blt_eq] using h10
        have : x.2.1 < 2 ^ j := Nat.lt_of_lt_of_le h10' (Nat.pow_le_pow_right (by omega) h)
        rw [Nat.testBit_lt_two_pow this] at hj; cases hj
    have := List.all_eq_true.1 h4 j (List.mem_range.2 hjn)
    simp only [hj, Bool.not_true, Bool.false_or, List.any_eq_true, Bool.or_eq_true, beq_iff_eq, Bool.and_eq_true] at this
    obtain ⟨d, hd, h⟩ := this
    exact ⟨d, hd, h.imp id fun ⟨y, a, b, c⟩ => ⟨y, a, b, c⟩⟩
  · intro t ht y hy he
    have := List.all_eq_true.1 (List.all_eq_true.1 h5 t ht) y hy
    simpa [he] using this
  · intro y hy hm
    have := List.all_eq_true.1 h6 y hy
    simpa [hm] using this
  · intro hm y hy hp ht
    simp only [hm, Bool.false_or] at h7
    have := List.all_eq_true.1 h7 y hy
    simp only [ht, Bool.or_false, Bool.or_eq_true, Bool.and_eq_true, Bool.not_eq_true', List.contains_iff_mem] at this
    rcases this with ⟨a, b⟩ | h
    · rcases hp with hp | hp
      · rw [hp] at a; cases a
      · rw [hp] at b; cases b
    · exact h
  · intro d hd y hy he
    rw [hd] at h8
    have := List.all_eq_true.1 h8 y hy
    simp [he] at this
  · intro hm
    cases hd : (opAt ops x.1).dst with
    | none => rw [hd] at h8; simp [hm] at h8
    | some d => rfl
  · intro hm
    simp only [hm, Bool.true_and, Bool.not_true, Bool.or_false, List.isEmpty_iff] at h9
    exact h9
  · intro d hd hm
    rw [hd] at h11
    simp [hm] at h11
  · intro d hd y hy hm
    rw [hd] at h11
    simp only [Bool.and_eq_true] at h11
    have := List.all_eq_true.1 h11.2 y hy
    simpa [hm] using this

/-- Closed sets of operations. -/
def Closed (ops : Array Oper) (D : Nat → Prop) : Prop := ∀ i, D i → ∀ d ∈ depsOf (opAt ops i), D d
def MaskOK (ops : Array Oper) (x : DI) : Prop := ∀ D : Nat → Prop, Closed ops D → (∀ d ∈ depsOf (opAt ops x.1), D d) → ∀ j, x.2.1.testBit j = true → D j
def MaskIn (pre : List DI) (x : DI) : Prop := ∀ j, x.2.1.testBit j = true → ∃ y ∈ pre, y.1 = j

theorem maskOK_of {ops : Array Oper} {pre : List DI} {x : DI} (h : VOne ops pre x) (hp : ∀ y ∈ pre, MaskOK ops y) : MaskOK ops x := by
  intro D hc hd j hj
  obtain ⟨d, hdx, h⟩ := h.mask j hj
  rcases h with rfl | ⟨y, hy, rfl, hyj⟩
  · exact hd d hdx
  · exact hp y hy D hc (hc y.1 (hd y.1 hdx)) j hyj
theorem maskIn_of {ops : Array Oper} {pre : List DI} {x : DI} (h : VOne ops pre x) (hp : ∀ y ∈ pre, MaskIn pre y) : MaskIn pre x := by
  intro j hj
  obtain ⟨d, hdx, h'⟩ := h.mask j hj
  rcases h' with rfl | ⟨y, hy, rfl, hyj⟩
  · exact h.deps d hdx
  · exact hp y hy j hyj

theorem vgo_later {ops : Array Oper} : ∀ {post pre : List DI}, vgo ops pre post = true → (∀ y ∈ pre, MaskOK ops y) → ∀ x ∈ post, MaskOK ops x ∧ ∀ y ∈ pre, lm ops y = false → x.2.1.testBit y.1 = true
  | [], _, _, _, _, hx => by cases hx
  | z :: post, pre, h, hp, x, hx => by
    simp only [vgo, Bool.and_eq_true] at h
    have hz := vone_ok h.1
    have hzm := maskOK_of hz hp
    rcases List.mem_cons.1 hx with rfl | hx
    · exact ⟨hzm, hz.loud⟩
    · obtain ⟨a, b⟩ := vgo_later h.2 (fun y hy => by rcases List.mem_cons.1 hy with rfl | hy; exact hzm; exact hp y hy) x hx
      exact ⟨a, fun y hy => b y (List.mem_cons_of_mem _ hy)⟩
end Go.Abs
