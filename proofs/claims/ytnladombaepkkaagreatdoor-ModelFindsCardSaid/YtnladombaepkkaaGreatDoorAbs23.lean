/- The abstract machine: a program's types as it knows them. Conditions: none. -/
import Derived.Test.YtnladombaepkkaaGreatDoorAbs22
set_option linter.all false
namespace Go.Abs
open Go

def fieldsOf (P : Program) : List Field → Option (List (Nat × Nat × TypeId))
  | [] => some []
  | f :: l => match P.info? f.type, fieldsOf P l with | some i, some m => some ((f.offset, i.size, f.type) :: m) | _, _ => none
def kOf (P : Program) : TypeDesc → Option TK
  | .int k => some (.int k)
  | .bool => some .bool
  | .string => some .string
  | .slice e => some (.slice e)
  | .pointer e => some (.ptr e)
  | .struct a => (fieldsOf P a.toList).map .struct
  | .array n e => some (.arr n e)
  | .func _ _ _ => some .func
  | .map k e => some (.map k e)
  | _ => some .other
def tiOf (P : Program) (t : TypeId) : Option TI :=
  match P.info? t, P.underlying t with
  | some x, some d =>
    match x.zero with
    | some z => match cAVs z.cells.toList, kOf P d with | some l, some k => some ⟨k, x.size, x.bytes, l⟩ | _, _ => none
    | none => none
  | _, _ => none

theorem fieldsOf_ok {P : Program} : ∀ {l : List Field} {m : List (Nat × Nat × TypeId)}, fieldsOf P l = some m →
    l.map (fun f => (f.offset, f.type)) = m.map (fun x => (x.1, x.2.2)) ∧ ∀ x ∈ m, (P.info? x.2.2).map (·.size) = some x.2.1
  | [], m, h => by simp only [fieldsOf, Option.some.injEq] at h; subst h; exact ⟨rfl, fun x hx => by cases hx⟩
  | f :: l, m, h => by
    simp only [fieldsOf] at h
    split at h
    · rename_i i m' h1 h2
      cases h
      obtain ⟨i1, i2⟩ := fieldsOf_ok h2
      refine ⟨by simp [i1], fun x hx => ?_⟩
      rcases List.mem_cons.1 hx with rfl | hx
      · simp [h1]
      · exact i2 x hx
    · cases h

theorem kOf_ok {P : Program} {d : TypeDesc} {k : TK} (h : kOf P d = some k) : KOK P d k := by
  cases d <;> simp only [kOf, Option.some.injEq, Option.map_eq_some_iff] at h
  case struct a =>
    obtain ⟨m, h1, rfl⟩ := h
    obtain ⟨i1, i2⟩ := fieldsOf_ok h1
    exact ⟨a, rfl, i1, i2⟩
  all_goals subst h
  all_goals simp [KOK]

theorem tiOf_ok {P : Program} {t : TypeId} {i : TI} (h : tiOf P t = some i) : TIOK P t i := by
  unfold tiOf at h
  split at h
  · rename_i x d hx hd
    split at h
    · rename_i z hz
      split at h
      · rename_i l k hl hk
        cases h
        exact ⟨⟨x, hx, rfl, rfl, z, hz, cAVs_ok hl⟩, ⟨d, hd, kOf_ok hk⟩⟩
      · cases h
    · cases h
  · cases h

/-- The program as the abstract machine knows it. -/
def cfg (P : Program) (nG : Nat) : Cfg := ⟨tiOf P, nG, fun t => flatEq P 9 t && !P.eqGuardType P.depth t⟩
theorem cfg_ok {P : Program} {nG : Nat} (h : nG ≤ P.globals.size) : COK P (cfg P nG) := ⟨fun _ _ h => tiOf_ok h, h, fun _ h => by simpa [cfg] using h⟩
end Go.Abs
