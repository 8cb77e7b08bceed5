/- What models are, as lists: sections, symbols, relocations, and their cells. Conditions: none. -/
import Derived.Test.YtnladombaepkkaaGreatDoorClean
import Derived.Test.YtnladombaepkkaaGreatDoorAbsD
set_option linter.all false
namespace Go.Proofs.YtnladombaepkkaaGreatDoor
open Go Go.Abs
structure PSec where
  name : List UInt8
  kind : Int
  align : Int
  flag : Int
  data : List UInt8
def PSec.cells (x : PSec) : List AV := [.s x.name, .i .i64 x.kind, .i .i64 x.align, .i .i64 x.flag, .s x.data]
structure SymD where
  name : List UInt8
  info : Int
  other : Int
  value : Int
  size : Int
  sect : Int
  special : Bool
def SymD.cells (x : SymD) : List AV := [.s x.name, .i .u64 x.info, .i .u64 x.other, .i .u64 x.value, .i .u64 x.size, .i .u64 x.sect, .b x.special]
structure RelD where
  off : Int
  sym : Int
  type : Int
  add : Int
def RelD.cells (x : RelD) : List AV := [.i .u64 x.off, .i .u64 x.sym, .i .u64 x.type, .i .u64 x.add]
/-- A section but for its three lists. -/
structure SecH where
  name : List UInt8
  type : Int
  flags : Int
  addr : Int
  link : Int
  info : Int
  align : Int
  ent : Int
  size : Int
  data : List UInt8
def SecH.cells (x : SecH) (a b c : AV) : List AV := [.s x.name, .i .u64 x.type, .i .u64 x.flags, .i .u64 x.addr, .i .u64 x.link, .i .u64 x.info, .i .u64 x.align, .i .u64 x.ent, .i .u64 x.size, .s x.data, a, b, c]
/-- What every section of a plan's model is. -/
def SecH.Good (x : SecH) : Prop := x.name.length ≤ 20 ∧ (x.type = 2 → 0 < x.link)
/-- A list that this call, and nobody else, holds. -/
def Own (H K : Heap) (sz : Nat) (els : List (List AV)) (v : AV) : Prop :=
  ∃ b cap, v = .sl b 0 els.length cap ∧ K.get b = some ⟨els.flatten, true⟩ ∧ H.next ≤ b ∧ (cap = .op sz ∨ cap = .kn els.length) ∧ ∀ c ∈ els, c.length = sz
theorem and_small (a : Int) (m : Nat) (hm : m ≤ 65535) : ∃ n : Nat, n ≤ m ∧ IntKind.i64.wrap ↑(BitVec.ofInt IntKind.i64.bits a &&& BitVec.ofInt IntKind.i64.bits (m : Int)).toNat = (n : Int) := by
  have h : (BitVec.ofInt IntKind.i64.bits a &&& BitVec.ofInt IntKind.i64.bits (m : Int)).toNat ≤ m := by
    rw [BitVec.toNat_and]
    refine Nat.le_trans Nat.and_le_right ?_
    rw [BitVec.ofInt_natCast, BitVec.toNat_ofNat]
    exact Nat.mod_le _ _
  exact ⟨_, h, i64n _ (by omega)⟩
end Go.Proofs.YtnladombaepkkaaGreatDoor
