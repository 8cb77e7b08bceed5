/-
  NARROWER THAN 'FOR EVERY INPUT', by the rows' own cells (each row's printed sentence says how): ModelReads: laid · ModelWrong: laid · ModelAsks: laid · ModelFinds: laid.
  DERIVED. THE GIVEN ROWS OF THIS SEAT. 4 by the template 'for every input the law returns true; each argument reads behind the call as it read before'; 0 by the template 'total and deterministic' (their statements: YtnladombaepkkaaGreatDoorTotals.lean).
  GIVEN WITH THE SEED: the statements are not yours to turn. If you find one false, say at which input.
  Laid BY PROGRAM, IN A SANDBOX (cutbox-rows.mjs): the forced cells as the released guide's own fill.sh prints them over the translation 64357a1513a3b94b… (all of the seat's roots in one cut). By AI agents, Wed Nov 11 2026. No macro, syntax, notation, axiom, sorry.
-/
import Derived.Test.YtnladombaepkkaaGreatDoorChecked
import GoSem.PinnedTables
import GoSem.Claim
import GoSem.ClaimJoined
import GoSem.ClaimMapViews
import Derived.JoinedTies
import Derived.KernelRfl
namespace Go.Proofs.YtnladombaepkkaaGreatDoor
/- THE CELL 'sum', in the pinned program and in every row, IS THE sha256 OF THE DUMP (.gsa) THAT YtnladombaepkkaaGreatDoorProg.lean LOADS. Nothing in Lean hashes anything: it is a label: what it is worth is what the hold of that sum in a sandbox is worth. -/
noncomputable def Tryz.pinned : Pinned := { name := "ytnladombaepkkaagreatdoor", sum := "64357a1513a3b94b0bb074d1e580193a9f85b7f14f3714d8b55e73ca4c285d7b", checked := Tryz.checked }
namespace Rows
def none {H : Type} : Left H := { results := [], args := [] }

/- WHAT THE LISTED PACKAGE-LEVEL VARIABLES READ AS WHEN THE CALL BEGINS. Each datum BY PROGRAM (the guide's laid-datum.mjs) off the statement by which the dump's own 'gosem.cut.vars' lays the variable. In a bare row this is a premise. The card (YtnladombaepkkaaGreatDoorCards.lean) ties it to the program's text. -/
def laid_unicode_utf8_acceptRanges {H : Type} : DataW H := .agg [.agg [.lit (.int .u8 128), .lit (.int .u8 191)], .agg [.lit (.int .u8 160), .lit (.int .u8 191)], .agg [.lit (.int .u8 128), .lit (.int .u8 159)], .agg [.lit (.int .u8 144), .lit (.int .u8 191)], .agg [.lit (.int .u8 128), .lit (.int .u8 143)], .agg [.lit (.int .u8 0), .lit (.int .u8 0)], .agg [.lit (.int .u8 0), .lit (.int .u8 0)], .agg [.lit (.int .u8 0), .lit (.int .u8 0)], .agg [.lit (.int .u8 0), .lit (.int .u8 0)], .agg [.lit (.int .u8 0), .lit (.int .u8 0)], .agg [.lit (.int .u8 0), .lit (.int .u8 0)], .agg [.lit (.int .u8 0), .lit (.int .u8 0)], .agg [.lit (.int .u8 0), .lit (.int .u8 0)], .agg [.lit (.int .u8 0), .lit (.int .u8 0)], .agg [.lit (.int .u8 0), .lit (.int .u8 0)], .agg [.lit (.int .u8 0), .lit (.int .u8 0)]]
def laid_graver_ehdr_sizes {H : Type} : DataW H := .agg [.lit (.int .i64 2), .lit (.int .i64 2), .lit (.int .i64 4), .lit (.int .i64 0), .lit (.int .i64 0), .lit (.int .i64 0), .lit (.int .i64 4), .lit (.int .i64 2), .lit (.int .i64 2), .lit (.int .i64 2), .lit (.int .i64 2), .lit (.int .i64 2), .lit (.int .i64 2)]
def laid_graver_phdr_wideSizes {H : Type} : DataW H := .agg [.lit (.int .i64 4), .lit (.int .i64 4), .lit (.int .i64 0), .lit (.int .i64 0), .lit (.int .i64 0), .lit (.int .i64 0), .lit (.int .i64 0), .lit (.int .i64 0)]
def laid_graver_phdr_narrowSizes {H : Type} : DataW H := .agg [.lit (.int .i64 4), .lit (.int .i64 0), .lit (.int .i64 0), .lit (.int .i64 0), .lit (.int .i64 0), .lit (.int .i64 0), .lit (.int .i64 4), .lit (.int .i64 0)]
def laid_graver_shdr_sizes {H : Type} : DataW H := .agg [.lit (.int .i64 4), .lit (.int .i64 4), .lit (.int .i64 0), .lit (.int .i64 0), .lit (.int .i64 0), .lit (.int .i64 0), .lit (.int .i64 4), .lit (.int .i64 4), .lit (.int .i64 0), .lit (.int .i64 0)]
def laid_graver_symrec_wideSizes {H : Type} : DataW H := .agg [.lit (.int .i64 4), .lit (.int .i64 1), .lit (.int .i64 1), .lit (.int .i64 2), .lit (.int .i64 0), .lit (.int .i64 0)]
def laid_graver_symrec_narrowSizes {H : Type} : DataW H := .agg [.lit (.int .i64 4), .lit (.int .i64 0), .lit (.int .i64 0), .lit (.int .i64 1), .lit (.int .i64 1), .lit (.int .i64 2)]
/-- One of Go's own tables, pinned by name: the form's constant. -/
def laid_unicode_utf8_first : DataW Unit := Go.Pinned.utf8First

/-- 'graverlaw13.ModelReads': WHATEVER THE INPUT: true; the input reads as it did. -/
def modelReadsSpec : ChangeSpec := { name := "modelReads", fn := fun _ => fun
  | [d1, d2] => { results := [.lit (.bool true)], args := [d1, d2] }
  | _ => none }
def modelReadsRow : OpenClaim := { program := "ytnladombaepkkaagreatdoor", sum := "64357a1513a3b94b0bb074d1e580193a9f85b7f14f3714d8b55e73ca4c285d7b", func := "graver/graverlaw13.ModelReads", spec := "modelReads", inPlace := ["math/bits.Add64", "internal/bytealg.IndexByteString", "internal/bytealg.IndexString"], unfollowed := true, recurses := true, named := ["graver/ehdr.sizes", "graver/shdr.sizes", "graver/phdr.wideSizes", "graver/phdr.narrowSizes", "internal/bytealg.MaxLen", "graver/symrec.wideSizes", "graver/symrec.narrowSizes", "unicode/utf8.first", "unicode/utf8.acceptRanges"], apart := false, laid := [("unicode/utf8.acceptRanges", laid_unicode_utf8_acceptRanges), ("graver/ehdr.sizes", laid_graver_ehdr_sizes), ("graver/phdr.wideSizes", laid_graver_phdr_wideSizes), ("graver/phdr.narrowSizes", laid_graver_phdr_narrowSizes), ("graver/shdr.sizes", laid_graver_shdr_sizes), ("graver/symrec.wideSizes", laid_graver_symrec_wideSizes), ("graver/symrec.narrowSizes", laid_graver_symrec_narrowSizes), ("unicode/utf8.first", laid_unicode_utf8_first)] }
def ModelReadsSaid : Prop := modelReadsRow.holds Tryz.pinned (OpenSpec.ofChange modelReadsSpec)

/-- ITS FALSE NEIGHBOUR: 'it returns false'. Refute it at one input. -/
def modelReadsWrong : ChangeSpec := { name := "modelReads", fn := fun _ => fun
  | [d1, d2] => { results := [.lit (.bool false)], args := [d1, d2] }
  | _ => none }
def ModelReadsWrongFalsely : Prop := modelReadsRow.holds Tryz.pinned (OpenSpec.ofChange modelReadsWrong)

/-- 'graverlaw13.ModelWrong': WHATEVER THE INPUT: true; the input reads as it did. -/
def modelWrongSpec : ChangeSpec := { name := "modelWrong", fn := fun _ => fun
  | [d1, d2] => { results := [.lit (.bool true)], args := [d1, d2] }
  | _ => none }
def modelWrongRow : OpenClaim := { program := "ytnladombaepkkaagreatdoor", sum := "64357a1513a3b94b0bb074d1e580193a9f85b7f14f3714d8b55e73ca4c285d7b", func := "graver/graverlaw13.ModelWrong", spec := "modelWrong", inPlace := ["math/bits.Add64", "internal/bytealg.IndexByteString", "internal/bytealg.IndexString"], unfollowed := true, recurses := true, named := ["graver/ehdr.sizes", "graver/shdr.sizes", "graver/phdr.wideSizes", "graver/phdr.narrowSizes", "internal/bytealg.MaxLen", "graver/symrec.wideSizes", "graver/symrec.narrowSizes", "unicode/utf8.first", "unicode/utf8.acceptRanges"], apart := false, laid := [("unicode/utf8.acceptRanges", laid_unicode_utf8_acceptRanges), ("graver/ehdr.sizes", laid_graver_ehdr_sizes), ("graver/phdr.wideSizes", laid_graver_phdr_wideSizes), ("graver/phdr.narrowSizes", laid_graver_phdr_narrowSizes), ("graver/shdr.sizes", laid_graver_shdr_sizes), ("graver/symrec.wideSizes", laid_graver_symrec_wideSizes), ("graver/symrec.narrowSizes", laid_graver_symrec_narrowSizes), ("unicode/utf8.first", laid_unicode_utf8_first)] }
def ModelWrongSaid : Prop := modelWrongRow.holds Tryz.pinned (OpenSpec.ofChange modelWrongSpec)

/-- ITS FALSE NEIGHBOUR: 'it returns false'. Refute it at one input. -/
def modelWrongWrong : ChangeSpec := { name := "modelWrong", fn := fun _ => fun
  | [d1, d2] => { results := [.lit (.bool false)], args := [d1, d2] }
  | _ => none }
def ModelWrongWrongFalsely : Prop := modelWrongRow.holds Tryz.pinned (OpenSpec.ofChange modelWrongWrong)

/-- 'graverlaw13.ModelAsks': WHATEVER THE INPUT: true; the input reads as it did. -/
def modelAsksSpec : ChangeSpec := { name := "modelAsks", fn := fun _ => fun
  | [d1, d2] => { results := [.lit (.bool true)], args := [d1, d2] }
  | _ => none }
def modelAsksRow : OpenClaim := { program := "ytnladombaepkkaagreatdoor", sum := "64357a1513a3b94b0bb074d1e580193a9f85b7f14f3714d8b55e73ca4c285d7b", func := "graver/graverlaw13.ModelAsks", spec := "modelAsks", inPlace := ["math/bits.Add64", "internal/bytealg.IndexByteString", "internal/bytealg.IndexString"], unfollowed := true, recurses := true, named := ["graver/ehdr.sizes", "graver/shdr.sizes", "graver/phdr.wideSizes", "graver/phdr.narrowSizes", "internal/bytealg.MaxLen", "graver/symrec.wideSizes", "graver/symrec.narrowSizes", "unicode/utf8.first", "unicode/utf8.acceptRanges"], apart := false, laid := [("unicode/utf8.acceptRanges", laid_unicode_utf8_acceptRanges), ("graver/ehdr.sizes", laid_graver_ehdr_sizes), ("graver/phdr.wideSizes", laid_graver_phdr_wideSizes), ("graver/phdr.narrowSizes", laid_graver_phdr_narrowSizes), ("graver/shdr.sizes", laid_graver_shdr_sizes), ("graver/symrec.wideSizes", laid_graver_symrec_wideSizes), ("graver/symrec.narrowSizes", laid_graver_symrec_narrowSizes), ("unicode/utf8.first", laid_unicode_utf8_first)] }
def ModelAsksSaid : Prop := modelAsksRow.holds Tryz.pinned (OpenSpec.ofChange modelAsksSpec)

/-- ITS FALSE NEIGHBOUR: 'it returns false'. Refute it at one input. -/
def modelAsksWrong : ChangeSpec := { name := "modelAsks", fn := fun _ => fun
  | [d1, d2] => { results := [.lit (.bool false)], args := [d1, d2] }
  | _ => none }
def ModelAsksWrongFalsely : Prop := modelAsksRow.holds Tryz.pinned (OpenSpec.ofChange modelAsksWrong)

/-- 'graverlaw13.ModelFinds': WHATEVER THE INPUT: true; the input reads as it did. -/
def modelFindsSpec : ChangeSpec := { name := "modelFinds", fn := fun _ => fun
  | [d1, d2, d3] => { results := [.lit (.bool true)], args := [d1, d2, d3] }
  | _ => none }
def modelFindsRow : OpenClaim := { program := "ytnladombaepkkaagreatdoor", sum := "64357a1513a3b94b0bb074d1e580193a9f85b7f14f3714d8b55e73ca4c285d7b", func := "graver/graverlaw13.ModelFinds", spec := "modelFinds", inPlace := ["math/bits.Add64", "internal/bytealg.IndexByteString", "internal/bytealg.IndexString"], unfollowed := true, recurses := true, named := ["graver/ehdr.sizes", "graver/shdr.sizes", "graver/phdr.wideSizes", "graver/phdr.narrowSizes", "internal/bytealg.MaxLen", "graver/symrec.wideSizes", "graver/symrec.narrowSizes", "unicode/utf8.first", "unicode/utf8.acceptRanges"], apart := false, laid := [("unicode/utf8.acceptRanges", laid_unicode_utf8_acceptRanges), ("graver/ehdr.sizes", laid_graver_ehdr_sizes), ("graver/phdr.wideSizes", laid_graver_phdr_wideSizes), ("graver/phdr.narrowSizes", laid_graver_phdr_narrowSizes), ("graver/shdr.sizes", laid_graver_shdr_sizes), ("graver/symrec.wideSizes", laid_graver_symrec_wideSizes), ("graver/symrec.narrowSizes", laid_graver_symrec_narrowSizes), ("unicode/utf8.first", laid_unicode_utf8_first)] }
def ModelFindsSaid : Prop := modelFindsRow.holds Tryz.pinned (OpenSpec.ofChange modelFindsSpec)

/-- ITS FALSE NEIGHBOUR: 'it returns false'. Refute it at one input. -/
def modelFindsWrong : ChangeSpec := { name := "modelFinds", fn := fun _ => fun
  | [d1, d2, d3] => { results := [.lit (.bool false)], args := [d1, d2, d3] }
  | _ => none }
def ModelFindsWrongFalsely : Prop := modelFindsRow.holds Tryz.pinned (OpenSpec.ofChange modelFindsWrong)

/- THE SECOND FORM. 'bulk': how many values and letters a reading holds, each counted each time it is reached (what is shared counts as often as it is met; a slice's spare places count too). A statement '..UptoSaid' is the law's where the arguments, and the package variables that the reading takes, are together of bulk at most 1048576: NARROWER than '..Said'. Prove '..Said' where nothing that the law and all that it calls make is longer than what came in: it says more and counts as full. Else prove '..UptoSaid'. A law counts once. -/
mutual
def uptoBulk {H : Type} : DataW H → Nat
  | .lit (.string bytes) => bytes.length + 1
  | .lit _ => 1
  | .nil => 1
  | .ptr d => uptoBulk d + 1
  | .slice elems spare => uptoBulkAll elems + uptoBulkAll spare + 1
  | .agg parts => uptoBulkAll parts + 1
  | .iface _ d => uptoBulk d + 1
  | .map entries => uptoBulkEntries entries + 1
  | .held _ => 1
def uptoBulkAll {H : Type} : List (DataW H) → Nat
  | [] => 0
  | d :: r => uptoBulk d + uptoBulkAll r
def uptoBulkEntries {H : Type} : List (Lit × DataW H) → Nat
  | [] => 0
  | x :: r => uptoBulkEntry x + uptoBulkEntries r
def uptoBulkEntry {H : Type} : Lit × DataW H → Nat
  | (.string bytes, d) => bytes.length + uptoBulk d + 1
  | (_, d) => uptoBulk d + 1
 end
def uptoSmall : (H : Type) → List (DataW H) → Bool := fun _ ds => decide (uptoBulkAll ds ≤ 1048576)
def OpenSpec.upto (s : _root_.Go.ChangeSpec) : _root_.Go.OpenSpec := { _root_.Go.OpenSpec.ofChange s with cond := some uptoSmall }

/-- 'graverlaw13.ModelReads', WHERE WHAT IT READS IS OF BULK AT MOST 1048576: true; the input reads as it did. -/
def modelReadsUptoRow : OpenClaim := { program := "ytnladombaepkkaagreatdoor", sum := "64357a1513a3b94b0bb074d1e580193a9f85b7f14f3714d8b55e73ca4c285d7b", func := "graver/graverlaw13.ModelReads", spec := "modelReads", inPlace := ["math/bits.Add64", "internal/bytealg.IndexByteString", "internal/bytealg.IndexString"], unfollowed := true, recurses := true, named := ["graver/ehdr.sizes", "graver/shdr.sizes", "graver/phdr.wideSizes", "graver/phdr.narrowSizes", "internal/bytealg.MaxLen", "graver/symrec.wideSizes", "graver/symrec.narrowSizes", "unicode/utf8.first", "unicode/utf8.acceptRanges"], apart := false, laid := [("unicode/utf8.acceptRanges", laid_unicode_utf8_acceptRanges), ("graver/ehdr.sizes", laid_graver_ehdr_sizes), ("graver/phdr.wideSizes", laid_graver_phdr_wideSizes), ("graver/phdr.narrowSizes", laid_graver_phdr_narrowSizes), ("graver/shdr.sizes", laid_graver_shdr_sizes), ("graver/symrec.wideSizes", laid_graver_symrec_wideSizes), ("graver/symrec.narrowSizes", laid_graver_symrec_narrowSizes), ("unicode/utf8.first", laid_unicode_utf8_first)], narrowed := true }
def ModelReadsUptoSaid : Prop := modelReadsUptoRow.holds Tryz.pinned (OpenSpec.upto modelReadsSpec)

/-- 'graverlaw13.ModelWrong', WHERE WHAT IT READS IS OF BULK AT MOST 1048576: true; the input reads as it did. -/
def modelWrongUptoRow : OpenClaim := { program := "ytnladombaepkkaagreatdoor", sum := "64357a1513a3b94b0bb074d1e580193a9f85b7f14f3714d8b55e73ca4c285d7b", func := "graver/graverlaw13.ModelWrong", spec := "modelWrong", inPlace := ["math/bits.Add64", "internal/bytealg.IndexByteString", "internal/bytealg.IndexString"], unfollowed := true, recurses := true, named := ["graver/ehdr.sizes", "graver/shdr.sizes", "graver/phdr.wideSizes", "graver/phdr.narrowSizes", "internal/bytealg.MaxLen", "graver/symrec.wideSizes", "graver/symrec.narrowSizes", "unicode/utf8.first", "unicode/utf8.acceptRanges"], apart := false, laid := [("unicode/utf8.acceptRanges", laid_unicode_utf8_acceptRanges), ("graver/ehdr.sizes", laid_graver_ehdr_sizes), ("graver/phdr.wideSizes", laid_graver_phdr_wideSizes), ("graver/phdr.narrowSizes", laid_graver_phdr_narrowSizes), ("graver/shdr.sizes", laid_graver_shdr_sizes), ("graver/symrec.wideSizes", laid_graver_symrec_wideSizes), ("graver/symrec.narrowSizes", laid_graver_symrec_narrowSizes), ("unicode/utf8.first", laid_unicode_utf8_first)], narrowed := true }
def ModelWrongUptoSaid : Prop := modelWrongUptoRow.holds Tryz.pinned (OpenSpec.upto modelWrongSpec)

/-- 'graverlaw13.ModelAsks', WHERE WHAT IT READS IS OF BULK AT MOST 1048576: true; the input reads as it did. -/
def modelAsksUptoRow : OpenClaim := { program := "ytnladombaepkkaagreatdoor", sum := "64357a1513a3b94b0bb074d1e580193a9f85b7f14f3714d8b55e73ca4c285d7b", func := "graver/graverlaw13.ModelAsks", spec := "modelAsks", inPlace := ["math/bits.Add64", "internal/bytealg.IndexByteString", "internal/bytealg.IndexString"], unfollowed := true, recurses := true, named := ["graver/ehdr.sizes", "graver/shdr.sizes", "graver/phdr.wideSizes", "graver/phdr.narrowSizes", "internal/bytealg.MaxLen", "graver/symrec.wideSizes", "graver/symrec.narrowSizes", "unicode/utf8.first", "unicode/utf8.acceptRanges"], apart := false, laid := [("unicode/utf8.acceptRanges", laid_unicode_utf8_acceptRanges), ("graver/ehdr.sizes", laid_graver_ehdr_sizes), ("graver/phdr.wideSizes", laid_graver_phdr_wideSizes), ("graver/phdr.narrowSizes", laid_graver_phdr_narrowSizes), ("graver/shdr.sizes", laid_graver_shdr_sizes), ("graver/symrec.wideSizes", laid_graver_symrec_wideSizes), ("graver/symrec.narrowSizes", laid_graver_symrec_narrowSizes), ("unicode/utf8.first", laid_unicode_utf8_first)], narrowed := true }
def ModelAsksUptoSaid : Prop := modelAsksUptoRow.holds Tryz.pinned (OpenSpec.upto modelAsksSpec)

/-- 'graverlaw13.ModelFinds', WHERE WHAT IT READS IS OF BULK AT MOST 1048576: true; the input reads as it did. -/
def modelFindsUptoRow : OpenClaim := { program := "ytnladombaepkkaagreatdoor", sum := "64357a1513a3b94b0bb074d1e580193a9f85b7f14f3714d8b55e73ca4c285d7b", func := "graver/graverlaw13.ModelFinds", spec := "modelFinds", inPlace := ["math/bits.Add64", "internal/bytealg.IndexByteString", "internal/bytealg.IndexString"], unfollowed := true, recurses := true, named := ["graver/ehdr.sizes", "graver/shdr.sizes", "graver/phdr.wideSizes", "graver/phdr.narrowSizes", "internal/bytealg.MaxLen", "graver/symrec.wideSizes", "graver/symrec.narrowSizes", "unicode/utf8.first", "unicode/utf8.acceptRanges"], apart := false, laid := [("unicode/utf8.acceptRanges", laid_unicode_utf8_acceptRanges), ("graver/ehdr.sizes", laid_graver_ehdr_sizes), ("graver/phdr.wideSizes", laid_graver_phdr_wideSizes), ("graver/phdr.narrowSizes", laid_graver_phdr_narrowSizes), ("graver/shdr.sizes", laid_graver_shdr_sizes), ("graver/symrec.wideSizes", laid_graver_symrec_wideSizes), ("graver/symrec.narrowSizes", laid_graver_symrec_narrowSizes), ("unicode/utf8.first", laid_unicode_utf8_first)], narrowed := true }
def ModelFindsUptoSaid : Prop := modelFindsUptoRow.holds Tryz.pinned (OpenSpec.upto modelFindsSpec)

end Rows
end Go.Proofs.YtnladombaepkkaaGreatDoor
