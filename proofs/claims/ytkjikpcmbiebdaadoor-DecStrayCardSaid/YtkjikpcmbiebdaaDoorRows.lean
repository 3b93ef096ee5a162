/-
  NARROWER THAN 'FOR EVERY INPUT', by the rows' own cells (each row's printed sentence says how): DecIs: laid · DecBack: laid · DecParts: laid · DecGood: laid · DecRows: laid · DecSizes: laid · DecAscii: laid · DecStray: laid.
  DERIVED. THE GIVEN ROWS OF THIS SEAT. 8 by the template 'for every input the law returns true; each argument reads behind the call as it read before'; 0 by the template 'total and deterministic' (their statements: YtkjikpcmbiebdaaDoorTotals.lean).
  GIVEN WITH THE SEED: the statements are not yours to turn. If you find one false, say at which input.
  Laid BY PROGRAM, IN A SANDBOX (cutbox-rows.mjs): the forced cells as the released guide's own fill.sh prints them over the translation 3bd5073096c6e7e6… (all of the seat's roots in one cut). By AI agents, Wed Nov 11 2026. No macro, syntax, notation, axiom, sorry.
-/
import Derived.Test.YtkjikpcmbiebdaaDoorChecked
import GoSem.PinnedTables
import GoSem.Claim
import GoSem.ClaimJoined
import GoSem.ClaimMapViews
import Derived.JoinedTies
import Derived.KernelRfl
namespace Go.Proofs.YtkjikpcmbiebdaaDoor
/- THE CELL 'sum', in the pinned program and in every row, IS THE sha256 OF THE DUMP (.gsa) THAT YtkjikpcmbiebdaaDoorProg.lean LOADS. Nothing in Lean hashes anything: it is a label: what it is worth is what the hold of that sum in a sandbox is worth. -/
noncomputable def Tryd.pinned : Pinned := { name := "ytkjikpcmbiebdaadoor", sum := "3bd5073096c6e7e6339e1a729b0d9a2c816e39282f44d307656103b655dee932", checked := Tryd.checked }
namespace Rows
def none {H : Type} : Left H := { results := [], args := [] }

/- WHAT THE LISTED PACKAGE-LEVEL VARIABLES READ AS WHEN THE CALL BEGINS. Each datum BY PROGRAM (the guide's laid-datum.mjs) off the statement by which the dump's own 'gosem.cut.vars' lays the variable. In a bare row this is a premise. The card (YtkjikpcmbiebdaaDoorCards.lean) ties it to the program's text. -/
def laid_unicode_utf8_acceptRanges {H : Type} : DataW H := .agg [.agg [.lit (.int .u8 128), .lit (.int .u8 191)], .agg [.lit (.int .u8 160), .lit (.int .u8 191)], .agg [.lit (.int .u8 128), .lit (.int .u8 159)], .agg [.lit (.int .u8 144), .lit (.int .u8 191)], .agg [.lit (.int .u8 128), .lit (.int .u8 143)], .agg [.lit (.int .u8 0), .lit (.int .u8 0)], .agg [.lit (.int .u8 0), .lit (.int .u8 0)], .agg [.lit (.int .u8 0), .lit (.int .u8 0)], .agg [.lit (.int .u8 0), .lit (.int .u8 0)], .agg [.lit (.int .u8 0), .lit (.int .u8 0)], .agg [.lit (.int .u8 0), .lit (.int .u8 0)], .agg [.lit (.int .u8 0), .lit (.int .u8 0)], .agg [.lit (.int .u8 0), .lit (.int .u8 0)], .agg [.lit (.int .u8 0), .lit (.int .u8 0)], .agg [.lit (.int .u8 0), .lit (.int .u8 0)], .agg [.lit (.int .u8 0), .lit (.int .u8 0)]]
/-- One of Go's own tables, pinned by name: the form's constant. -/
def laid_unicode_utf8_first : DataW Unit := Go.Pinned.utf8First

/-- 'pentroughlaw01.DecIs': WHATEVER THE INPUT: true; the input reads as it did. -/
def decIsSpec : ChangeSpec := { name := "decIs", fn := fun _ => fun
  | [d1, d2, d3, d4] => { results := [.lit (.bool true)], args := [d1, d2, d3, d4] }
  | _ => none }
def decIsRow : OpenClaim := { program := "ytkjikpcmbiebdaadoor", sum := "3bd5073096c6e7e6339e1a729b0d9a2c816e39282f44d307656103b655dee932", func := "pentrough/pentroughlaw01.DecIs", spec := "decIs", inPlace := ["internal/abi.NoEscape"], recurses := true, named := ["unicode/utf8.first", "unicode/utf8.acceptRanges"], apart := false, laid := [("unicode/utf8.acceptRanges", laid_unicode_utf8_acceptRanges), ("unicode/utf8.first", laid_unicode_utf8_first)] }
def DecIsSaid : Prop := decIsRow.holds Tryd.pinned (OpenSpec.ofChange decIsSpec)

/-- ITS FALSE NEIGHBOUR: 'it returns false'. Refute it at one input. -/
def decIsWrong : ChangeSpec := { name := "decIs", fn := fun _ => fun
  | [d1, d2, d3, d4] => { results := [.lit (.bool false)], args := [d1, d2, d3, d4] }
  | _ => none }
def DecIsWrongFalsely : Prop := decIsRow.holds Tryd.pinned (OpenSpec.ofChange decIsWrong)

/-- 'pentroughlaw01.DecBack': WHATEVER THE INPUT: true; the input reads as it did. -/
def decBackSpec : ChangeSpec := { name := "decBack", fn := fun _ => fun
  | [d] => { results := [.lit (.bool true)], args := [d] }
  | _ => none }
def decBackRow : OpenClaim := { program := "ytkjikpcmbiebdaadoor", sum := "3bd5073096c6e7e6339e1a729b0d9a2c816e39282f44d307656103b655dee932", func := "pentrough/pentroughlaw01.DecBack", spec := "decBack", inPlace := ["internal/abi.NoEscape"], recurses := true, named := ["unicode/utf8.first", "unicode/utf8.acceptRanges"], apart := false, laid := [("unicode/utf8.acceptRanges", laid_unicode_utf8_acceptRanges), ("unicode/utf8.first", laid_unicode_utf8_first)] }
def DecBackSaid : Prop := decBackRow.holds Tryd.pinned (OpenSpec.ofChange decBackSpec)

/-- ITS FALSE NEIGHBOUR: 'it returns false'. Refute it at one input. -/
def decBackWrong : ChangeSpec := { name := "decBack", fn := fun _ => fun
  | [d] => { results := [.lit (.bool false)], args := [d] }
  | _ => none }
def DecBackWrongFalsely : Prop := decBackRow.holds Tryd.pinned (OpenSpec.ofChange decBackWrong)

/-- 'pentroughlaw01.DecParts': WHATEVER THE INPUT: true; the input reads as it did. -/
def decPartsSpec : ChangeSpec := { name := "decParts", fn := fun _ => fun
  | [d1, d2] => { results := [.lit (.bool true)], args := [d1, d2] }
  | _ => none }
def decPartsRow : OpenClaim := { program := "ytkjikpcmbiebdaadoor", sum := "3bd5073096c6e7e6339e1a729b0d9a2c816e39282f44d307656103b655dee932", func := "pentrough/pentroughlaw01.DecParts", spec := "decParts", inPlace := ["internal/abi.NoEscape"], recurses := true, named := ["unicode/utf8.first", "unicode/utf8.acceptRanges"], apart := false, laid := [("unicode/utf8.acceptRanges", laid_unicode_utf8_acceptRanges), ("unicode/utf8.first", laid_unicode_utf8_first)] }
def DecPartsSaid : Prop := decPartsRow.holds Tryd.pinned (OpenSpec.ofChange decPartsSpec)

/-- ITS FALSE NEIGHBOUR: 'it returns false'. Refute it at one input. -/
def decPartsWrong : ChangeSpec := { name := "decParts", fn := fun _ => fun
  | [d1, d2] => { results := [.lit (.bool false)], args := [d1, d2] }
  | _ => none }
def DecPartsWrongFalsely : Prop := decPartsRow.holds Tryd.pinned (OpenSpec.ofChange decPartsWrong)

/-- 'pentroughlaw01.DecGood': WHATEVER THE INPUT: true; the input reads as it did. -/
def decGoodSpec : ChangeSpec := { name := "decGood", fn := fun _ => fun
  | [d] => { results := [.lit (.bool true)], args := [d] }
  | _ => none }
def decGoodRow : OpenClaim := { program := "ytkjikpcmbiebdaadoor", sum := "3bd5073096c6e7e6339e1a729b0d9a2c816e39282f44d307656103b655dee932", func := "pentrough/pentroughlaw01.DecGood", spec := "decGood", inPlace := ["internal/abi.NoEscape"], recurses := true, named := ["unicode/utf8.first", "unicode/utf8.acceptRanges"], apart := false, laid := [("unicode/utf8.acceptRanges", laid_unicode_utf8_acceptRanges), ("unicode/utf8.first", laid_unicode_utf8_first)] }
def DecGoodSaid : Prop := decGoodRow.holds Tryd.pinned (OpenSpec.ofChange decGoodSpec)

/-- ITS FALSE NEIGHBOUR: 'it returns false'. Refute it at one input. -/
def decGoodWrong : ChangeSpec := { name := "decGood", fn := fun _ => fun
  | [d] => { results := [.lit (.bool false)], args := [d] }
  | _ => none }
def DecGoodWrongFalsely : Prop := decGoodRow.holds Tryd.pinned (OpenSpec.ofChange decGoodWrong)

/-- 'pentroughlaw01.DecRows': WHATEVER THE INPUT: true; the input reads as it did. -/
def decRowsSpec : ChangeSpec := { name := "decRows", fn := fun _ => fun
  | [d1, d2] => { results := [.lit (.bool true)], args := [d1, d2] }
  | _ => none }
def decRowsRow : OpenClaim := { program := "ytkjikpcmbiebdaadoor", sum := "3bd5073096c6e7e6339e1a729b0d9a2c816e39282f44d307656103b655dee932", func := "pentrough/pentroughlaw01.DecRows", spec := "decRows", inPlace := ["internal/abi.NoEscape"], recurses := true, named := ["unicode/utf8.first", "unicode/utf8.acceptRanges"], apart := false, laid := [("unicode/utf8.acceptRanges", laid_unicode_utf8_acceptRanges), ("unicode/utf8.first", laid_unicode_utf8_first)] }
def DecRowsSaid : Prop := decRowsRow.holds Tryd.pinned (OpenSpec.ofChange decRowsSpec)

/-- ITS FALSE NEIGHBOUR: 'it returns false'. Refute it at one input. -/
def decRowsWrong : ChangeSpec := { name := "decRows", fn := fun _ => fun
  | [d1, d2] => { results := [.lit (.bool false)], args := [d1, d2] }
  | _ => none }
def DecRowsWrongFalsely : Prop := decRowsRow.holds Tryd.pinned (OpenSpec.ofChange decRowsWrong)

/-- 'pentroughlaw01.DecSizes': WHATEVER THE INPUT: true; the input reads as it did. -/
def decSizesSpec : ChangeSpec := { name := "decSizes", fn := fun _ => fun
  | [d] => { results := [.lit (.bool true)], args := [d] }
  | _ => none }
def decSizesRow : OpenClaim := { program := "ytkjikpcmbiebdaadoor", sum := "3bd5073096c6e7e6339e1a729b0d9a2c816e39282f44d307656103b655dee932", func := "pentrough/pentroughlaw01.DecSizes", spec := "decSizes", inPlace := ["internal/abi.NoEscape"], recurses := true, named := ["unicode/utf8.first", "unicode/utf8.acceptRanges"], apart := false, laid := [("unicode/utf8.acceptRanges", laid_unicode_utf8_acceptRanges), ("unicode/utf8.first", laid_unicode_utf8_first)] }
def DecSizesSaid : Prop := decSizesRow.holds Tryd.pinned (OpenSpec.ofChange decSizesSpec)

/-- ITS FALSE NEIGHBOUR: 'it returns false'. Refute it at one input. -/
def decSizesWrong : ChangeSpec := { name := "decSizes", fn := fun _ => fun
  | [d] => { results := [.lit (.bool false)], args := [d] }
  | _ => none }
def DecSizesWrongFalsely : Prop := decSizesRow.holds Tryd.pinned (OpenSpec.ofChange decSizesWrong)

/-- 'pentroughlaw01.DecAscii': WHATEVER THE INPUT: true; the input reads as it did. -/
def decAsciiSpec : ChangeSpec := { name := "decAscii", fn := fun _ => fun
  | [d] => { results := [.lit (.bool true)], args := [d] }
  | _ => none }
def decAsciiRow : OpenClaim := { program := "ytkjikpcmbiebdaadoor", sum := "3bd5073096c6e7e6339e1a729b0d9a2c816e39282f44d307656103b655dee932", func := "pentrough/pentroughlaw01.DecAscii", spec := "decAscii", inPlace := ["internal/abi.NoEscape"], recurses := true, named := ["unicode/utf8.first", "unicode/utf8.acceptRanges"], apart := false, laid := [("unicode/utf8.acceptRanges", laid_unicode_utf8_acceptRanges), ("unicode/utf8.first", laid_unicode_utf8_first)] }
def DecAsciiSaid : Prop := decAsciiRow.holds Tryd.pinned (OpenSpec.ofChange decAsciiSpec)

/-- ITS FALSE NEIGHBOUR: 'it returns false'. Refute it at one input. -/
def decAsciiWrong : ChangeSpec := { name := "decAscii", fn := fun _ => fun
  | [d] => { results := [.lit (.bool false)], args := [d] }
  | _ => none }
def DecAsciiWrongFalsely : Prop := decAsciiRow.holds Tryd.pinned (OpenSpec.ofChange decAsciiWrong)

/-- 'pentroughlaw01.DecStray': WHATEVER THE INPUT: true; the input reads as it did. -/
def decStraySpec : ChangeSpec := { name := "decStray", fn := fun _ => fun
  | [d1, d2, d3] => { results := [.lit (.bool true)], args := [d1, d2, d3] }
  | _ => none }
def decStrayRow : OpenClaim := { program := "ytkjikpcmbiebdaadoor", sum := "3bd5073096c6e7e6339e1a729b0d9a2c816e39282f44d307656103b655dee932", func := "pentrough/pentroughlaw01.DecStray", spec := "decStray", inPlace := ["internal/abi.NoEscape"], recurses := true, named := ["unicode/utf8.first", "unicode/utf8.acceptRanges"], apart := false, laid := [("unicode/utf8.acceptRanges", laid_unicode_utf8_acceptRanges), ("unicode/utf8.first", laid_unicode_utf8_first)] }
def DecStraySaid : Prop := decStrayRow.holds Tryd.pinned (OpenSpec.ofChange decStraySpec)

/-- ITS FALSE NEIGHBOUR: 'it returns false'. Refute it at one input. -/
def decStrayWrong : ChangeSpec := { name := "decStray", fn := fun _ => fun
  | [d1, d2, d3] => { results := [.lit (.bool false)], args := [d1, d2, d3] }
  | _ => none }
def DecStrayWrongFalsely : Prop := decStrayRow.holds Tryd.pinned (OpenSpec.ofChange decStrayWrong)

/- THE SECOND FORM. 'bulk': how many values and letters a reading holds, each counted each time it is reached (what is shared counts as often as it is met; a slice's spare places count too). A statement '..UptoSaid' is the law's where the arguments, and the package variables that the reading takes, are together of bulk at most 1048576: NARROWER than '..Said'. Prove '..Said' where nothing that the law and all that it calls make is longer than what came in: it says more and counts as full. Else prove '..UptoSaid'. A law counts once. -/
mutual
def uptoBulk {H : Type} : DataW H → Nat
  | .lit (.string bytes) => bytes.length + 1
  | .lit _ => 1
  | .nil => 1
  | .ptr d => uptoBulk d + 1
  | .slice elems spare => uptoBulkAll elems + uptoBulkAll spare + 1
  | .agg parts => uptoBulkAll parts + 1
  | .iface _ d => uptoBulk d + 1
  | .map entries => uptoBulkEntries entries + 1
  | .held _ => 1
def uptoBulkAll {H : Type} : List (DataW H) → Nat
  | [] => 0
  | d :: r => uptoBulk d + uptoBulkAll r
def uptoBulkEntries {H : Type} : List (Lit × DataW H) → Nat
  | [] => 0
  | x :: r => uptoBulkEntry x + uptoBulkEntries r
def uptoBulkEntry {H : Type} : Lit × DataW H → Nat
  | (.string bytes, d) => bytes.length + uptoBulk d + 1
  | (_, d) => uptoBulk d + 1
 end
def uptoSmall : (H : Type) → List (DataW H) → Bool := fun _ ds => decide (uptoBulkAll ds ≤ 1048576)
def OpenSpec.upto (s : _root_.Go.ChangeSpec) : _root_.Go.OpenSpec := { _root_.Go.OpenSpec.ofChange s with cond := some uptoSmall }

/-- 'pentroughlaw01.DecIs', WHERE WHAT IT READS IS OF BULK AT MOST 1048576: true; the input reads as it did. -/
def decIsUptoRow : OpenClaim := { program := "ytkjikpcmbiebdaadoor", sum := "3bd5073096c6e7e6339e1a729b0d9a2c816e39282f44d307656103b655dee932", func := "pentrough/pentroughlaw01.DecIs", spec := "decIs", inPlace := ["internal/abi.NoEscape"], recurses := true, named := ["unicode/utf8.first", "unicode/utf8.acceptRanges"], apart := false, laid := [("unicode/utf8.acceptRanges", laid_unicode_utf8_acceptRanges), ("unicode/utf8.first", laid_unicode_utf8_first)], narrowed := true }
def DecIsUptoSaid : Prop := decIsUptoRow.holds Tryd.pinned (OpenSpec.upto decIsSpec)

/-- 'pentroughlaw01.DecBack', WHERE WHAT IT READS IS OF BULK AT MOST 1048576: true; the input reads as it did. -/
def decBackUptoRow : OpenClaim := { program := "ytkjikpcmbiebdaadoor", sum := "3bd5073096c6e7e6339e1a729b0d9a2c816e39282f44d307656103b655dee932", func := "pentrough/pentroughlaw01.DecBack", spec := "decBack", inPlace := ["internal/abi.NoEscape"], recurses := true, named := ["unicode/utf8.first", "unicode/utf8.acceptRanges"], apart := false, laid := [("unicode/utf8.acceptRanges", laid_unicode_utf8_acceptRanges), ("unicode/utf8.first", laid_unicode_utf8_first)], narrowed := true }
def DecBackUptoSaid : Prop := decBackUptoRow.holds Tryd.pinned (OpenSpec.upto decBackSpec)

/-- 'pentroughlaw01.DecParts', WHERE WHAT IT READS IS OF BULK AT MOST 1048576: true; the input reads as it did. -/
def decPartsUptoRow : OpenClaim := { program := "ytkjikpcmbiebdaadoor", sum := "3bd5073096c6e7e6339e1a729b0d9a2c816e39282f44d307656103b655dee932", func := "pentrough/pentroughlaw01.DecParts", spec := "decParts", inPlace := ["internal/abi.NoEscape"], recurses := true, named := ["unicode/utf8.first", "unicode/utf8.acceptRanges"], apart := false, laid := [("unicode/utf8.acceptRanges", laid_unicode_utf8_acceptRanges), ("unicode/utf8.first", laid_unicode_utf8_first)], narrowed := true }
def DecPartsUptoSaid : Prop := decPartsUptoRow.holds Tryd.pinned (OpenSpec.upto decPartsSpec)

/-- 'pentroughlaw01.DecGood', WHERE WHAT IT READS IS OF BULK AT MOST 1048576: true; the input reads as it did. -/
def decGoodUptoRow : OpenClaim := { program := "ytkjikpcmbiebdaadoor", sum := "3bd5073096c6e7e6339e1a729b0d9a2c816e39282f44d307656103b655dee932", func := "pentrough/pentroughlaw01.DecGood", spec := "decGood", inPlace := ["internal/abi.NoEscape"], recurses := true, named := ["unicode/utf8.first", "unicode/utf8.acceptRanges"], apart := false, laid := [("unicode/utf8.acceptRanges", laid_unicode_utf8_acceptRanges), ("unicode/utf8.first", laid_unicode_utf8_first)], narrowed := true }
def DecGoodUptoSaid : Prop := decGoodUptoRow.holds Tryd.pinned (OpenSpec.upto decGoodSpec)

/-- 'pentroughlaw01.DecRows', WHERE WHAT IT READS IS OF BULK AT MOST 1048576: true; the input reads as it did. -/
def decRowsUptoRow : OpenClaim := { program := "ytkjikpcmbiebdaadoor", sum := "3bd5073096c6e7e6339e1a729b0d9a2c816e39282f44d307656103b655dee932", func := "pentrough/pentroughlaw01.DecRows", spec := "decRows", inPlace := ["internal/abi.NoEscape"], recurses := true, named := ["unicode/utf8.first", "unicode/utf8.acceptRanges"], apart := false, laid := [("unicode/utf8.acceptRanges", laid_unicode_utf8_acceptRanges), ("unicode/utf8.first", laid_unicode_utf8_first)], narrowed := true }
def DecRowsUptoSaid : Prop := decRowsUptoRow.holds Tryd.pinned (OpenSpec.upto decRowsSpec)

/-- 'pentroughlaw01.DecSizes', WHERE WHAT IT READS IS OF BULK AT MOST 1048576: true; the input reads as it did. -/
def decSizesUptoRow : OpenClaim := { program := "ytkjikpcmbiebdaadoor", sum := "3bd5073096c6e7e6339e1a729b0d9a2c816e39282f44d307656103b655dee932", func := "pentrough/pentroughlaw01.DecSizes", spec := "decSizes", inPlace := ["internal/abi.NoEscape"], recurses := true, named := ["unicode/utf8.first", "unicode/utf8.acceptRanges"], apart := false, laid := [("unicode/utf8.acceptRanges", laid_unicode_utf8_acceptRanges), ("unicode/utf8.first", laid_unicode_utf8_first)], narrowed := true }
def DecSizesUptoSaid : Prop := decSizesUptoRow.holds Tryd.pinned (OpenSpec.upto decSizesSpec)

/-- 'pentroughlaw01.DecAscii', WHERE WHAT IT READS IS OF BULK AT MOST 1048576: true; the input reads as it did. -/
def decAsciiUptoRow : OpenClaim := { program := "ytkjikpcmbiebdaadoor", sum := "3bd5073096c6e7e6339e1a729b0d9a2c816e39282f44d307656103b655dee932", func := "pentrough/pentroughlaw01.DecAscii", spec := "decAscii", inPlace := ["internal/abi.NoEscape"], recurses := true, named := ["unicode/utf8.first", "unicode/utf8.acceptRanges"], apart := false, laid := [("unicode/utf8.acceptRanges", laid_unicode_utf8_acceptRanges), ("unicode/utf8.first", laid_unicode_utf8_first)], narrowed := true }
def DecAsciiUptoSaid : Prop := decAsciiUptoRow.holds Tryd.pinned (OpenSpec.upto decAsciiSpec)

/-- 'pentroughlaw01.DecStray', WHERE WHAT IT READS IS OF BULK AT MOST 1048576: true; the input reads as it did. -/
def decStrayUptoRow : OpenClaim := { program := "ytkjikpcmbiebdaadoor", sum := "3bd5073096c6e7e6339e1a729b0d9a2c816e39282f44d307656103b655dee932", func := "pentrough/pentroughlaw01.DecStray", spec := "decStray", inPlace := ["internal/abi.NoEscape"], recurses := true, named := ["unicode/utf8.first", "unicode/utf8.acceptRanges"], apart := false, laid := [("unicode/utf8.acceptRanges", laid_unicode_utf8_acceptRanges), ("unicode/utf8.first", laid_unicode_utf8_first)], narrowed := true }
def DecStrayUptoSaid : Prop := decStrayUptoRow.holds Tryd.pinned (OpenSpec.upto decStraySpec)

end Rows
end Go.Proofs.YtkjikpcmbiebdaaDoor
