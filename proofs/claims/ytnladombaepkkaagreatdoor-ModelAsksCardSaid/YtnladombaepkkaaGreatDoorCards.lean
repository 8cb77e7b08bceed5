/-
  DERIVED. GIVEN WITH THE SEED: THE CARDS: each row of YtnladombaepkkaaGreatDoorRows.lean that lists a variable, with what it lists TIED to the program's text (the seventh form; the later family's looks); each row that meets fmt, with fmt's text TOLD by the authors' own Lean function (tested against real Go, not proved from fmt's source: count such statements apart). THE CARD IS WHAT COUNTS. Prove the row's statement (the work); the ties are given (YtnladombaepkkaaGreatDoorTie.lean); close each card by the builder's one call (the guide's Derived/Test/ToyasCard.lean, 'card_holds'). Laid BY PROGRAM, IN A SANDBOX (cutbox-door.mjs). By AI agents, Wed Nov 11 2026. No macro, syntax, notation, axiom, sorry.
-/
import Derived.Test.YtnladombaepkkaaGreatDoorRows
import GoSem.ClaimSeven
namespace Go.Proofs.YtnladombaepkkaaGreatDoor
namespace Rows

/-- THE TIED CARD OF 'graverlaw13.ModelReads'. -/
def modelReadsCard : Claim7 := { stood := { row := modelReadsRow, standIns := [], harness := (true, "a642b8f973354711721cc34eba74abb5d6d9bcd2108c40f2455dfb1c72e5a586"), looks := false }, kinds := [], alts := [], laidByText := true, laidKinds := [.data, .widerDeep, .widerDeep, .widerDeep, .widerDeep, .widerDeep, .widerDeep, .pinned], laidTests := true, laidLooks := .later }
def ModelReadsCardSaid : Prop := Claim7.holds Tryz.pinned (.plain (OpenSpec.ofChange modelReadsSpec)) modelReadsCard

/-- THE TIED CARD OF 'graverlaw13.ModelWrong'. -/
def modelWrongCard : Claim7 := { stood := { row := modelWrongRow, standIns := [], harness := (true, "a642b8f973354711721cc34eba74abb5d6d9bcd2108c40f2455dfb1c72e5a586"), looks := false }, kinds := [], alts := [], laidByText := true, laidKinds := [.data, .widerDeep, .widerDeep, .widerDeep, .widerDeep, .widerDeep, .widerDeep, .pinned], laidTests := true, laidLooks := .later }
def ModelWrongCardSaid : Prop := Claim7.holds Tryz.pinned (.plain (OpenSpec.ofChange modelWrongSpec)) modelWrongCard

/-- THE TIED CARD OF 'graverlaw13.ModelAsks'. -/
def modelAsksCard : Claim7 := { stood := { row := modelAsksRow, standIns := [], harness := (true, "a642b8f973354711721cc34eba74abb5d6d9bcd2108c40f2455dfb1c72e5a586"), looks := false }, kinds := [], alts := [], laidByText := true, laidKinds := [.data, .widerDeep, .widerDeep, .widerDeep, .widerDeep, .widerDeep, .widerDeep, .pinned], laidTests := true, laidLooks := .later }
def ModelAsksCardSaid : Prop := Claim7.holds Tryz.pinned (.plain (OpenSpec.ofChange modelAsksSpec)) modelAsksCard

/-- THE TIED CARD OF 'graverlaw13.ModelFinds'. -/
def modelFindsCard : Claim7 := { stood := { row := modelFindsRow, standIns := [], harness := (true, "a642b8f973354711721cc34eba74abb5d6d9bcd2108c40f2455dfb1c72e5a586"), looks := false }, kinds := [], alts := [], laidByText := true, laidKinds := [.data, .widerDeep, .widerDeep, .widerDeep, .widerDeep, .widerDeep, .widerDeep, .pinned], laidTests := true, laidLooks := .later }
def ModelFindsCardSaid : Prop := Claim7.holds Tryz.pinned (.plain (OpenSpec.ofChange modelFindsSpec)) modelFindsCard

/-- THE SECOND FORM's CARD OF 'graverlaw13.ModelReads'. -/
def modelReadsUptoCard : Claim7 := { stood := { row := modelReadsUptoRow, standIns := [], harness := (true, "a642b8f973354711721cc34eba74abb5d6d9bcd2108c40f2455dfb1c72e5a586"), looks := false }, kinds := [], alts := [], laidByText := true, laidKinds := [.data, .widerDeep, .widerDeep, .widerDeep, .widerDeep, .widerDeep, .widerDeep, .pinned], laidTests := true, laidLooks := .later }
def ModelReadsUptoCardSaid : Prop := Claim7.holds Tryz.pinned (.plain (OpenSpec.upto modelReadsSpec)) modelReadsUptoCard

/-- THE SECOND FORM's CARD OF 'graverlaw13.ModelWrong'. -/
def modelWrongUptoCard : Claim7 := { stood := { row := modelWrongUptoRow, standIns := [], harness := (true, "a642b8f973354711721cc34eba74abb5d6d9bcd2108c40f2455dfb1c72e5a586"), looks := false }, kinds := [], alts := [], laidByText := true, laidKinds := [.data, .widerDeep, .widerDeep, .widerDeep, .widerDeep, .widerDeep, .widerDeep, .pinned], laidTests := true, laidLooks := .later }
def ModelWrongUptoCardSaid : Prop := Claim7.holds Tryz.pinned (.plain (OpenSpec.upto modelWrongSpec)) modelWrongUptoCard

/-- THE SECOND FORM's CARD OF 'graverlaw13.ModelAsks'. -/
def modelAsksUptoCard : Claim7 := { stood := { row := modelAsksUptoRow, standIns := [], harness := (true, "a642b8f973354711721cc34eba74abb5d6d9bcd2108c40f2455dfb1c72e5a586"), looks := false }, kinds := [], alts := [], laidByText := true, laidKinds := [.data, .widerDeep, .widerDeep, .widerDeep, .widerDeep, .widerDeep, .widerDeep, .pinned], laidTests := true, laidLooks := .later }
def ModelAsksUptoCardSaid : Prop := Claim7.holds Tryz.pinned (.plain (OpenSpec.upto modelAsksSpec)) modelAsksUptoCard

/-- THE SECOND FORM's CARD OF 'graverlaw13.ModelFinds'. -/
def modelFindsUptoCard : Claim7 := { stood := { row := modelFindsUptoRow, standIns := [], harness := (true, "a642b8f973354711721cc34eba74abb5d6d9bcd2108c40f2455dfb1c72e5a586"), looks := false }, kinds := [], alts := [], laidByText := true, laidKinds := [.data, .widerDeep, .widerDeep, .widerDeep, .widerDeep, .widerDeep, .widerDeep, .pinned], laidTests := true, laidLooks := .later }
def ModelFindsUptoCardSaid : Prop := Claim7.holds Tryz.pinned (.plain (OpenSpec.upto modelFindsSpec)) modelFindsUptoCard
end Rows
end Go.Proofs.YtnladombaepkkaaGreatDoor
