/- The abstract machine: what one operation gives. Conditions: none. -/
import Derived.Test.YtnladombaepkkaaGreatDoorAbs1
set_option linter.all false
namespace Go.Abs
open Go

inductive TK where
  | int (k : IntKind)
  | bool
  | string
  | slice (e : TypeId)
  | ptr (e : TypeId)
  | struct (fs : List (Nat × Nat × TypeId))
  | arr (n : Nat) (e : TypeId)
  | func
  | map (k e : TypeId)
  | other

structure TI where
  k : TK
  size : Nat
  bytes : Nat
  zero : List AV

def TI.agg (t : TI) : Bool := match t.k with | .struct _ => true | .arr _ _ => true | _ => false

def noRen : Ren := fun _ => none

def KOK (P : Program) (d : TypeDesc) : TK → Prop
  | .int k => d = .int k
  | .bool => d = .bool
  | .string => d = .string
  | .slice e => d = .slice e
  | .ptr e => d = .pointer e
  | .struct fs => ∃ a : Array Field, d = .struct a ∧ a.toList.map (fun f => (f.offset, f.type)) = fs.map (fun x => (x.1, x.2.2)) ∧
      ∀ x ∈ fs, (P.info? x.2.2).map (·.size) = some x.2.1
  | .arr n e => d = .array n e
  | .func => ∃ a b c, d = .func a b c
  | .map k e => d = .map k e
  | .other => (match d with | .struct _ | .array _ _ => true | _ => false) = false

structure TIOK (P : Program) (t : TypeId) (i : TI) : Prop where
  info : ∃ x, P.info? t = some x ∧ x.size = i.size ∧ x.bytes = i.bytes ∧ ∃ z, x.zero = some z ∧ VRL noRen i.zero z.cells.toList
  desc : ∃ d, P.underlying t = some d ∧ KOK P d i.k

/-- What the abstract machine knows of the program. -/
structure Cfg where
  T : TypeId → Option TI
  nG : Nat
  E : TypeId → Bool

/-- Types of structs and arrays whose every part is a number, a bool or a string. -/
def flatEq (P : Program) : Nat → TypeId → Bool
  | 0, _ => false
  | n + 1, t =>
    match P.underlying t with
    | some .bool => true
    | some (.int _) => true
    | some .string => true
    | some (.struct fs) => !P.stoodInHeld t && fs.toList.all fun f => f.name != "_" && flatEq P n f.type
    | some (.array _ e) => flatEq P n e
    | _ => false

def AV.one : AV → Bool
  | .ag _ => false
  | .raw => false
  | .tu _ => false
  | _ => true
def AV.cells : AV → List AV
  | .ag l => l
  | v => [v]

def AV.rebase (b : Nat) : AV → AV
  | .p _ o => .p b o
  | .sl _ o l c => .sl b o l c
  | v => v

def cAV1 : Value → Option AV
  | .bool b => some (.b b)
  | .int k n => some (.i k n)
  | .string s => some (.s s.data.toList)
  | .pointer none => some .np
  | .slice none 0 0 => some .ns
  | .nilFunc => some .nf
  | .nilIface => some .ni
  | .map none => some .nm
  | _ => none
def cAVs : List Value → Option (List AV)
  | [] => some []
  | v :: l => match cAV1 v, cAVs l with | some a, some m => some (a :: m) | _, _ => none
def cAV (v : Value) : Option AV :=
  match v with
  | .agg cs => match cAVs cs.toList with | some l => some (.ag l) | none => none
  | v => cAV1 v

abbrev TM := Tr AV

def aev (C : Cfg) (tm : TM) : Operand → Option AV
  | .tmp t => tm.get t
  | .const v => cAV v
  | .global g => bif Nat.blt g C.nG then some (.p g 0) else none
  | .func f => some (.fn (.func f) [] [])

def aevs (ρ : Operand → Option AV) : List Operand → Option (List AV)
  | [] => some []
  | x :: l => match ρ x, aevs ρ l with | some a, some m => some (a :: m) | _, _ => none
def aparts (ρ : Operand → Option AV) : List (Nat × Operand) → Option (List (Nat × AV))
  | [] => some []
  | x :: l => match ρ x.2, aparts ρ l with | some a, some m => some ((x.1, a) :: m) | _, _ => none

/-- A struct's or array's cells with some parts laid in. -/
def afill (place : Nat → Option (Nat × Nat)) (cells : List AV) : List (Nat × AV) → Option (List AV)
  | [] => some cells
  | (i, v) :: rest =>
    match place i with
    | none => none
    | some (off, size) =>
      if v.cells.length = size ∧ off + size ≤ cells.length then afill place (cells.take off ++ v.cells ++ cells.drop (off + size)) rest else none

def apart (C : Cfg) (t : TypeId) (cs : List AV) (off : Nat) : Option AV :=
  match C.T t with
  | none => none
  | some i => if i.agg then some (.ag ((cs.drop off).take i.size)) else cs[off]?

def aload (C : Cfg) (H : Heap) (t : TypeId) (b o : Nat) : Option AV :=
  match C.T t, H.get b with
  | some i, some B => if i.agg then (if o + i.size ≤ B.cells.length then some (.ag ((B.cells.drop o).take i.size)) else none) else B.cells[o]?
  | _, _ => none

def abin (op : BinOp) (k : IntKind) (a b : Int) : Option AV :=
  match op with
  | .add => some (.i k (k.wrap (a + b)))
  | .sub => some (.i k (k.wrap (a - b)))
  | .mul => some (.i k (k.wrap (a * b)))
  | .quo => if b = 0 then none else some (.i k (k.wrap (a.tdiv b)))
  | .rem => if b = 0 then none else some (.i k (a.tmod b))
  | .and => some (.i k (k.wrap (BitVec.ofInt k.bits a &&& BitVec.ofInt k.bits b).toNat))
  | .or => some (.i k (k.wrap (BitVec.ofInt k.bits a ||| BitVec.ofInt k.bits b).toNat))
  | .xor => some (.i k (k.wrap (BitVec.ofInt k.bits a ^^^ BitVec.ofInt k.bits b).toNat))
  | .andNot => some (.i k (k.wrap (BitVec.ofInt k.bits a &&& ~~~BitVec.ofInt k.bits b).toNat))
  | .eql => some (.b (a == b))
  | .neq => some (.b (a != b))
  | .lss => some (.b (decide (a < b)))
  | .leq => some (.b (decide (a ≤ b)))
  | .gtr => some (.b (decide (a > b)))
  | .geq => some (.b (decide (a ≥ b)))
  | _ => none

def astr (op : BinOp) (x y : List UInt8) : Option AV :=
  match op with
  | .add => if x.length + y.length ≤ 9223372036854775807 then some (.s (x ++ y)) else none
  | .eql => some (.b (x == y))
  | .neq => some (.b (!(x == y)))
  | .lss => some (.b (Op.bytesLess x y))
  | .leq => some (.b (Op.bytesLess x y || x == y))
  | .gtr => some (.b (!(Op.bytesLess x y || x == y)))
  | .geq => some (.b (!(Op.bytesLess x y)))
  | _ => none

/-- The kinds of '==' that are followed: numbers, bools, strings; a pointer or a slice or a function against nil. -/
def aeq1 : AV → AV → Option Bool
  | .i k a, .i k' b => if k = k' then some (a == b) else none
  | .b a, .b b => some (a == b)
  | .s a, .s b => some (a == b)
  | .np, .np => some true
  | .np, .p _ _ => some false
  | .p _ _, .np => some false
  | .ns, .ns => some true
  | .ns, .sl _ _ _ _ => some false
  | .sl _ _ _ _, .ns => some false
  | .nm, .nm => some true
  | .nm, .mp _ => some false
  | .mp _, .nm => some false
  | .nf, .nf => some true
  | .nf, .fn _ _ _ => some false
  | .fn _ _ _, .nf => some false
  | _, _ => none

def aeqFs (C : Cfg) (F : TypeId → AV → AV → Option Bool) : List (Nat × Nat × TypeId) → List AV → List AV → Option Bool
  | [], _, _ => some true
  | (off, _, ty) :: fs, l, m =>
    match apart C ty l off, apart C ty m off with
    | some a, some b => (match F ty a b, aeqFs C F fs l m with | some x, some y => some (x && y) | _, _ => none)
    | _, _ => none
def aeqIs (C : Cfg) (F : AV → AV → Option Bool) (e : TypeId) (sz : Nat) : List Nat → List AV → List AV → Option Bool
  | [], _, _ => some true
  | i :: is, l, m =>
    match apart C e l (i * sz), apart C e m (i * sz) with
    | some a, some b => (match F a b, aeqIs C F e sz is l m with | some x, some y => some (x && y) | _, _ => none)
    | _, _ => none
def aeqV (C : Cfg) : Nat → TypeId → AV → AV → Option Bool
  | 0, _, _, _ => none
  | n + 1, t, a, b =>
    match C.T t, a, b with
    | some ⟨.struct fs, _, _, _⟩, .ag l, .ag m => aeqFs C (aeqV C n) fs l m
    | some ⟨.arr len e, _, _, _⟩, .ag l, .ag m => (match C.T e with | some ei => aeqIs C (aeqV C n e) e ei.size (List.range len) l m | none => none)
    | some ⟨.int _, _, _, _⟩, .i k x, .i k' y => if k = k' then some (x == y) else none
    | some ⟨.bool, _, _, _⟩, .b x, .b y => some (x == y)
    | some ⟨.string, _, _, _⟩, .s x, .s y => some (x == y)
    | _, _, _ => none
/-- '==' of structs and arrays. -/
def aeqA (C : Cfg) (op : BinOp) (t : TypeId) (l m : List AV) : Option AV :=
  bif C.E t then (match op with
    | .eql => (aeqV C 9 t (.ag l) (.ag m)).map .b
    | .neq => (aeqV C 9 t (.ag l) (.ag m)).map fun z => .b !z
    | _ => none) else none

def aints (op : BinOp) (k : IntKind) (a : Int) (k' : IntKind) (b : Int) : Option AV :=
  match op with
  | .shl => if b < 0 then none else some (.i k (k.wrap (a * 2 ^ (min b.toNat k.bits))))
  | .shr => if b < 0 then none else some (.i k (a.fdiv (2 ^ (min b.toNat k.bits))))
  | op => if k = k' then abin op k a b else none
def aoth (op : BinOp) (x y : AV) : Option AV :=
  match op with
  | .eql => (aeq1 x y).map .b
  | .neq => (aeq1 x y).map fun t => .b !t
  | _ => none
def abinop (op : BinOp) (x y : AV) : Option AV :=
  match x, y with
  | .i k a, .i k' b => aints op k a k' b
  | .s a, .s b => astr op a b
  | x, y => aoth op x y

def isEq : BinOp → Bool
  | .eql => true
  | .neq => true
  | _ => false

def aun (op : UnOp) (x : AV) : Option AV :=
  match op, x with
  | .not, .b t => some (.b !t)
  | .neg, .i k n => some (.i k (k.wrap (0 - n)))
  | .xor, .i k n => some (.i k (k.wrap (BitVec.ofInt k.bits (if k.signed then -1 else k.max) ^^^ BitVec.ofInt k.bits n).toNat))
  | _, _ => none

def abytes : List AV → Option (List UInt8)
  | [] => some []
  | .i .u8 n :: l => match abytes l with | some m => some (UInt8.ofNat n.toNat :: m) | none => none
  | _ :: _ => none

def aconv (C : Cfg) (H : Heap) (src dst : TypeId) (x : AV) : Option AV :=
  match C.T src, C.T dst with
  | some s, some d =>
    match s.k, d.k, x with
    | .int _, .int k, .i _ n => some (.i k (k.wrap n))
    | .string, .string, .s l => some (.s l)
    | .slice e, .string, .ns => match C.T e with | some ⟨.int .u8, _, _, _⟩ => some (.s []) | _ => none
    | .slice e, .string, .sl b o len _ =>
      match C.T e, H.get b with
      | some ⟨.int .u8, _, _, _⟩, some B => if o + len ≤ B.cells.length then (abytes ((B.cells.drop o).take len)).map .s else none
      | _, _ => none
    | _, _, _ => none
  | _, _ => none

def aint : Option AV → Nat → Option Nat
  | none, d => some d
  | some (.i _ n), _ => if 0 ≤ n then some n.toNat else none
  | _, _ => none

def aslice (C : Cfg) (t : TypeId) (x : AV) (lo hi : Option AV) : Option AV :=
  match C.T t with
  | none => none
  | some i =>
    match i.k, x with
    | .string, .s l =>
      match aint lo 0, aint hi l.length with
      | some a, some b => if a ≤ b ∧ b ≤ l.length then some (.s ((l.drop a).take (b - a))) else none
      | _, _ => none
    | .slice e, .ns =>
      match C.T e, aint lo 0, aint hi 0 with
      | some _, some a, some b => if a = 0 ∧ b = 0 then some .ns else none
      | _, _, _ => none
    | .slice e, .sl b o len cap =>
      match C.T e, aint lo 0, aint hi len with
      | some ei, some l, some h =>
        match cap with
        | .kn n => if l ≤ h ∧ h ≤ n then some (.sl b (if n = l then o else o + l * ei.size) (h - l) (.kn (n - l))) else none
        | .op es =>
          if l ≤ h ∧ h ≤ len then
            (if l = len then (if l = 0 then some (.sl b o 0 (.op es)) else some .em)
             else if l = 0 then some (.sl b o h (.op es))
             else if es = ei.size then some (.sl b (o + l * ei.size) (h - l) (.op es)) else none)
          else none
      | _, _, _ => none
    | .arr n e, .p b o =>
      match C.T e, aint lo 0, aint hi n with
      | some ei, some l, some h => if l ≤ h ∧ h ≤ n then some (.sl b (if n = l then o else o + l * ei.size) (h - l) (.kn (n - l))) else none
      | _, _, _ => none
    | _, _ => none

def afield (C : Cfg) (s : TypeId) (x : AV) (f : Nat) : Option AV :=
  match C.T s, x with
  | some ⟨.struct fs, _, _, _⟩, .p b o => match fs[f]? with | some (off, size, _) => if size = 0 then none else some (.p b (o + off)) | none => none
  | _, _ => none

def aidx (C : Cfg) (t : TypeId) (x i : AV) : Option AV :=
  match C.T t, x, i with
  | some ⟨.slice e, _, _, _⟩, .sl b o len _, .i _ n => match C.T e with | some ei => if 0 ≤ n ∧ n < len then some (.p b (o + n.toNat * ei.size)) else none | none => none
  | some ⟨.arr len e, _, _, _⟩, .p b o, .i _ n => match C.T e with | some ei => if 0 ≤ n ∧ n < len then some (.p b (o + n.toNat * ei.size)) else none | none => none
  | _, _, _ => none

def aindex (C : Cfg) (t : TypeId) (x i : AV) : Option AV :=
  match C.T t, x, i with
  | some ⟨.string, _, _, _⟩, .s l, .i _ n => if 0 ≤ n then (match l[n.toNat]? with | some c => some (.i .u8 c.toNat) | none => none) else none
  | some ⟨.arr len e, _, _, _⟩, .ag cs, .i _ n => match C.T e with | some ei => if 0 ≤ n ∧ n < len then apart C e cs (n.toNat * ei.size) else none | none => none
  | _, _, _ => none

def alen : AV → Option AV
  | .s l => some (.i .i64 l.length)
  | .sl _ _ n _ => some (.i .i64 n)
  | .ns => some (.i .i64 0)
  | .em => some (.i .i64 0)
  | _ => none

/-- The length of what has the given kind. -/
def alenT (k : TK) (a : AV) : Option AV :=
  match k, a with
  | .string, .s l => some (.i .i64 l.length)
  | .slice _, .sl _ _ n _ => some (.i .i64 n)
  | .slice _, .ns => some (.i .i64 0)
  | .slice _, .em => some (.i .i64 0)
  | _, _ => none
theorem alenT_s (l : List UInt8) : alenT .string (.s l) = some (.i .i64 l.length) := rfl
theorem alenT_sl (e b o n : Nat) (c : Cap) : alenT (.slice e) (.sl b o n c) = some (.i .i64 n) := rfl
theorem alenT_ns (e : Nat) : alenT (.slice e) .ns = some (.i .i64 0) := rfl
theorem alenT_em (e : Nat) : alenT (.slice e) .em = some (.i .i64 0) := rfl
theorem alenT_alen {k : TK} {a v : AV} (h : alenT k a = some v) : alen a = some v ∧ (k = .string ∧ (∃ l, a = .s l) ∨ (∃ e, k = .slice e) ∧ ∀ l, a ≠ .s l) := by
  unfold alenT at h
  split at h
  · exact ⟨h, .inl ⟨rfl, _, rfl⟩⟩
  · exact ⟨h, .inr ⟨⟨_, rfl⟩, by simp⟩⟩
  · exact ⟨h, .inr ⟨⟨_, rfl⟩, by simp⟩⟩
  · exact ⟨h, .inr ⟨⟨_, rfl⟩, by simp⟩⟩
  · cases h

def amin (lt : Bool) : AV → List AV → Option AV
  | x, [] => some x
  | .i k a, .i k' b :: l => if k = k' then amin lt (.i k (if lt then (if b < a then b else a) else (if b > a then b else a))) l else none
  | _, _ => none

/-- '==' where the operands' kinds are followed: what the type must be. -/
def eqTy (C : Cfg) (t : TypeId) : AV → Bool
  | .np => match C.T t with | some ⟨.ptr _, _, _, _⟩ => true | _ => false
  | .p _ _ => match C.T t with | some ⟨.ptr _, _, _, _⟩ => true | _ => false
  | .ns => match C.T t with | some ⟨.slice _, _, _, _⟩ => true | _ => false
  | .sl _ _ _ _ => match C.T t with | some ⟨.slice _, _, _, _⟩ => true | _ => false
  | .nf => match C.T t with | some ⟨.func, _, _, _⟩ => true | _ => false
  | .fn _ _ _ => match C.T t with | some ⟨.func, _, _, _⟩ => true | _ => false
  | .nm => match C.T t with | some ⟨.map _ _, _, _, _⟩ => true | _ => false
  | .mp _ => match C.T t with | some ⟨.map _ _, _, _, _⟩ => true | _ => false
  | .b _ => match C.T t with | some ⟨.bool, _, _, _⟩ => true | _ => false
  | _ => true

/-- Operations that give a value, and leave the heap. -/
def aval (C : Cfg) (H : Heap) (ρ : Operand → Option AV) (op : Op) : Option AV :=
  match op with
  | .move x => ρ x
  | .assign x => ρ x
  | .pick c a b => match ρ c with | some (.b t) => bif t then ρ a else ρ b | _ => none
  | .build t parts =>
    match C.T t, aparts ρ parts.toList with
    | some i, some ps =>
      match i.k with
      | .struct fs => (afill (fun j => (fs[j]?).map fun x => (x.1, x.2.1)) i.zero ps).map .ag
      | .arr _ e => match C.T e with | some ei => (afill (fun j => some (j * ei.size, ei.size)) i.zero ps).map .ag | none => none
      | _ => none
    | _, _ => none
  | .load t a => match ρ a with | some (.p b o) => aload C H t b o | _ => none
  | .nilCheck x => match ρ x with | some (.p b o) => some (.p b o) | some (.fn (.func f) fi ca) => some (.fn (.func f) fi ca) | _ => none
  | .binOp op t x y _ => match ρ x, ρ y with | some (.ag l), some (.ag m) => aeqA C op t l m | some a, some b => bif isEq op && !eqTy C t a then none else abinop op a b | _, _ => none
  | .unOp op _ x => match ρ x with | some a => aun op a | none => none
  | .convert s d x => match ρ x with | some a => aconv C H s d a | none => none
  | .slice t x lo hi none =>
    match ρ x, (match lo with | none => some none | some l => (ρ l).map some), (match hi with | none => some none | some h => (ρ h).map some) with
    | some a, some l, some h => aslice C t a l h
    | _, _, _ => none
  | .fieldAddr s x f => match ρ x with | some a => afield C s a f | none => none
  | .field t x f =>
    match ρ x, C.T t with
    | some (.ag cs), some ⟨.struct fs, _, _, _⟩ => match fs[f]? with | some (off, _, ft) => apart C ft cs off | none => none
    | _, _ => none
  | .indexAddr t x i => match ρ x, ρ i with | some a, some n => aidx C t a n | _, _ => none
  | .index t x i => match ρ x, ρ i with | some a, some n => aindex C t a n | _, _ => none
  | .extract x i => match ρ x with | some (.tu l) => l[i]? | _ => none
  | .makeFunc f fi ca => match aevs ρ fi.toList, aevs ρ ca.toList with | some x, some y => some (.fn f x y) | _, _ => none
  | .call c =>
    match c.callee with
    | .builtin .len =>
      match aevs ρ c.args.toList, (c.argTypes[0]?).bind C.T with
      | some [a], some i => alenT i.k a
      | _, _ => none
    | .builtin .min => match aevs ρ c.args.toList with | some (a :: l) => amin true a l | _ => none
    | .builtin .max => match aevs ρ c.args.toList with | some (a :: l) => amin false a l | _ => none
    | _ => none
  | _ => none

def aones : List AV → Bool
  | [] => true
  | a :: l => a.one && aones l

/-- Values as they are appended. -/
def anew (C : Cfg) (H : Heap) (t : TypeId) (size : Nat) (x : AV) : Option (Nat × List AV) :=
  match C.T t, x with
  | some ⟨.slice _, _, _, _⟩, .ns => some (0, [])
  | some ⟨.slice _, _, _, _⟩, .em => some (0, [])
  | some ⟨.slice _, _, _, _⟩, .sl b o n _ =>
    match H.get b with
    | some B => if o + n * size ≤ B.cells.length then some (n, (B.cells.drop o).take (n * size)) else none
    | none => none
  | some ⟨.string, _, _, _⟩, .s l => bif Nat.beq size 1 then some (l.length, l.map fun c => .i .u8 c.toNat) else none
  | _, _ => none

def bigCells : Nat := 140737488355328

def aappend (C : Cfg) (H : Heap) (t u : TypeId) (s x : AV) : Option (AV × Heap) :=
  match C.T t with
  | some ⟨.slice e, _, _, _⟩ =>
    match C.T e with
    | none => none
    | some ei =>
      match anew C H u ei.size x with
      | none => none
      | some (n, new) =>
        if ei.zero.length = ei.size ∧ aones new = true then
          match s with
          | .ns =>
            if n = 0 then some (.ns, H)
            else if n ≤ bigCells ∧ n * ei.bytes ≤ bigCells then some (.sl H.next 0 n (.op ei.size), H.alloc ⟨new, true⟩) else none
          | .sl b o len cap =>
            match H.get b with
            | none => none
            | some B =>
              match cap with
              | .kn k =>
                if len + n ≤ k then
                  (if n = 0 then some (.sl b o len (.kn k), H)
                   else if B.wr = true ∧ o + (len + n) * ei.size ≤ B.cells.length then
                    some (.sl b o (len + n) (.kn k), H.set b ⟨B.cells.take (o + len * ei.size) ++ new ++ B.cells.drop (o + len * ei.size + n * ei.size), true⟩)
                   else none)
                else if len + n ≤ bigCells ∧ (len + n) * ei.bytes ≤ bigCells ∧ o + len * ei.size ≤ B.cells.length then
                  some (.sl H.next 0 (len + n) (.op ei.size), H.alloc ⟨(B.cells.drop o).take (len * ei.size) ++ new, true⟩)
                else none
              | .op es =>
                if es = ei.size ∧ o = 0 ∧ B.wr = true ∧ B.cells.length = len * ei.size ∧ len + n ≤ bigCells ∧ (len + n) * ei.bytes ≤ bigCells then
                  some (.sl H.next 0 (len + n) (.op ei.size), H.turn b ⟨B.cells ++ new, true⟩)
                else none
          | _ => none
        else none
  | _ => none

def astore (C : Cfg) (H : Heap) (t : TypeId) (a x : AV) : Option Heap :=
  match C.T t, a with
  | some i, .p b o =>
    match H.get b with
    | some B => if B.wr = true ∧ x.cells.length = i.size ∧ o + i.size ≤ B.cells.length ∧ aones x.cells = true then some (H.set b ⟨B.cells.take o ++ x.cells ++ B.cells.drop (o + i.size), true⟩) else none
    | none => none
  | _, _ => none

def areps : Nat → List AV → List AV
  | 0, _ => []
  | n + 1, l => l ++ areps n l

/-- Operations that make memory. -/
def amake (C : Cfg) (H : Heap) (ρ : Operand → Option AV) (op : Op) : Option (AV × Heap) :=
  match op with
  | .alloc e => match C.T e with | some ei => some (.p H.next 0, H.alloc ⟨ei.zero, true⟩) | none => none
  | .box _ x => match ρ x with | some a => some (.p H.next 0, H.alloc ⟨a.cells, true⟩) | none => none
  | .buildSlice t len parts =>
    match C.T t, aparts ρ parts.toList with
    | some ⟨.slice e, _, _, _⟩, some ps =>
      match C.T e with
      | some ei =>
        if ei.zero.length = ei.size ∧ len * ei.size ≤ 16777216 then
          match afill (fun j => some (j * ei.size, ei.size)) (areps len ei.zero) ps with
          | some l => some (.sl H.next 0 len (.kn len), H.alloc ⟨l, true⟩)
          | none => none
        else none
      | none => none
    | _, _ => none
  | .makeSlice t len cap =>
    match C.T t, ρ len, ρ cap with
    | some ⟨.slice e, _, _, _⟩, some (.i _ l), some (.i _ c) =>
      match C.T e with
      | some ei => if ei.zero.length = ei.size ∧ 0 ≤ l ∧ l ≤ c ∧ c ≤ bigCells ∧ ei.bytes * c ≤ bigCells then some (.sl H.next 0 l.toNat (.kn c.toNat), H.alloc ⟨areps c.toNat ei.zero, true⟩) else none
      | none => none
    | _, _, _ => none
  | .convert src dst x =>
    if src = dst then
      match C.T src, ρ x with
      | some ⟨.slice e, _, _, _⟩, some (.sl b o n c) =>
        match C.T e, H.get b with
        | some ⟨.int .u8, _, _, _⟩, some B => if B.wr = true then some (.sl b o n c, H) else none
        | _, _ => none
      | _, _ => none
    else
      match C.T src, C.T dst, ρ x with
      | some ⟨.string, _, _, _⟩, some ⟨.slice e, _, _, _⟩, some (.s l) =>
        match C.T e with
        | some ⟨.int .u8, _, _, _⟩ => some (.sl H.next 0 l.length (.op 1), H.alloc ⟨l.map fun c => .i .u8 c.toNat, true⟩)
        | _ => none
      | _, _, _ => none
  | .call c =>
    match c.callee with
    | .builtin .append =>
      match aevs ρ c.args.toList, c.argTypes[0]?, c.argTypes[1]? with
      | some [s, x], some t, some u => aappend C H t u s x
      | _, _, _ => none
    | _ => none
  | _ => none

end Go.Abs
